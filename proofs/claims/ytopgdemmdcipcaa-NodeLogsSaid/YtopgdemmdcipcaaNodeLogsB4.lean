/- What the proof of NodeLogs rests on, part 4: rules of walks, what functions compute, and plain laws of it. -/
import Derived.Test.YtopgdemmdcipcaaNodeLogsB3
namespace Go.Proofs.Ytopgdemmdcipcaa
open Go.RowKit
open Rep (rep)
set_option linter.unusedVariables false
def nodeIs_j1 (c5 : Bool) : Option Bool :=
 some c5
def nodeIsD (fu : Nat) (x1 : Int) : Option Bool :=
 (bif decide (x1 ≥ 0) then
 nodeIs_j1 (decide (x1 < 6))
 else
 nodeIs_j1 false)
set_option maxRecDepth 100000 in
set_option maxHeartbeats 4000000 in
theorem nodeIs_ok {M : Mm} {w : World} {x1 : Int} {fu : Nat} {r : Bool} (hA : Agree M w)  (hz : nodeIsD fu x1 = some r) :
    Calls Try.prog 51 #[.int .i64 x1] w (GivesV w (.bool r)) := by
 refine calls_W Try.func51 rfl 9 rfl rfl (by kernel_rfl) fun T hT => ?_
 have hT_0 : T 0 = .int .i64 x1 := hT 0
 clear hT
 have hE := Mm.ext.refl w.heap.size noX M
 have hS : St w noX M [] w := St.start hA
 rw [nodeIsD] at hz
 refine W_seq <|W_reg <|WL_y (Y_assign (.bool false) rfl) ?_
 refine WL_nil (nm_then ?_)
 refine W_seqJ (fun T' w' => ∃ M3 c5, Mm.ext w.heap.size noX M M3 ∧ St w noX M3 [] w' ∧ T' 2 = .bool c5 ∧ nodeIs_j1 c5 = some r) ?_ ?_
 have hF7 := Mm.ext.refl w.heap.size noX M
 refine W_reg <|WL_y (Y_move (.int .i64 x1) hT_0) <|WL_y (Y_geq rfl rfl) <|WL_y (Y_move (.bool (decide (x1 ≥ 0))) rfl) ?_
 rcases ic hz with ⟨hc8, hz⟩ | ⟨hc8, hz⟩ <;> rw [hc8]
 refine WL_gy rfl rfl (Y_move (.int .i64 x1) hT_0) <|WL_gy rfl rfl (Y_lss rfl rfl) <|WL_d 2 rfl ?_
 refine WL_nil (nm_then ?_)
 exact ⟨M, (decide (x1 < 6)), hF7, hS, rfl, hz⟩
 refine WL_d 4 rfl ?_
 refine WL_nil (nm_then ?_)
 exact ⟨M, false, hF7, hS, rfl, hz⟩
 rintro T4 w2 ⟨M3, c5, hx6, hS, hT4_2, hz⟩
 replace hE := Mm.ext.trans hE hx6
 rw [nodeIs_j1] at hz
 cases hz
 exact W_ret (R_t1 rfl hT4_2 ⟨rfl, hS.kept⟩)
def nodeGood_j1 (y17 : Int) (rec18 : (Vector Bool 32) → Int → Option Bool) (d27 : Vector Bool 32) : Option Bool :=
 rec18 d27 (IntKind.wrap .i64 (y17 + 1))
def nodeGood_j2 (d16 : Vector Bool 32) (y17 : Int) (rec18 : (Vector Bool 32) → Int → Option Bool) (x31 : Int) : Option Bool :=
 (inR x31 32).bind fun _ =>
 (idxV d16 x31).bind fun x40 =>
 (setV d16 x31 true).bind fun a43 =>
 (some a43).bind fun d45 =>
 nodeGood_j1 y17 rec18 d45
def nodeGood_j3 (d16 : Vector Bool 32) (y17 : Int) (rec18 : (Vector Bool 32) → Int → Option Bool) (x31 : Int) (c50 : Bool) : Option Bool :=
 (bif c50 then
 some false
 else
 nodeGood_j2 d16 y17 rec18 x31)
def nodeGood_j4 (y69 : Int) (rec70 : Int → Option Bool) : Option Bool :=
 rec70 (IntKind.wrap .i64 (y69 + 1))
def nodeGood_j7 (y112 : Int) (rec113 : Int → Option Bool) : Option Bool :=
 rec113 (IntKind.wrap .i64 (y112 + 1))
def nodeGood_j8 (y112 : Int) (rec113 : Int → Option Bool) (c128 : Bool) : Option Bool :=
 (bif c128 then
 some false
 else
 nodeGood_j7 y112 rec113)
def nodeGood_l3 (y69 : Int) (rec70 : Int → Option Bool) (d86 : GEntry) : Nat → Int → Option Bool
 | 0, _ => none
 | n + 1, y112 =>
 (bif decide (y112 < (d86.at_.length : Int)) then
 (idx d86.at_ y112).bind fun x124 =>
 (bif decide (x124 < 0) then
 nodeGood_j8 y112 (nodeGood_l3 y69 rec70 d86 n) true
 else
 (bif decide (x124 ≥ (d86.ops.length : Int)) then
 nodeGood_j8 y112 (nodeGood_l3 y69 rec70 d86 n) true
 else
 (bif decide (y112 > 0) then
 (idx d86.at_ (IntKind.wrap .i64 (y112 - 1))).bind fun x139 =>
 nodeGood_j8 y112 (nodeGood_l3 y69 rec70 d86 n) (decide (x139 ≥ x124))
 else
 nodeGood_j8 y112 (nodeGood_l3 y69 rec70 d86 n) false)))
 else
 nodeGood_j4 y69 rec70)
def nodeGood_j6 (fu : Nat) (y69 : Int) (rec70 : Int → Option Bool) (d86 : GEntry) : Option Bool :=
 nodeGood_l3 y69 rec70 d86 fu 0
def nodeGood_j9 (fu : Nat) (y69 : Int) (rec70 : Int → Option Bool) (d86 : GEntry) (c144 : Bool) : Option Bool :=
 (bif c144 then
 some false
 else
 nodeGood_j6 fu y69 rec70 d86)
def nodeGood_j5 (fu : Nat) (y69 : Int) (rec70 : Int → Option Bool) (d86 : GEntry) : Option Bool :=
 (bif d86.state == 0 then
 (bif decide ((IntKind.wrap .i64 ((IntKind.wrap .i64 ((IntKind.wrap .i64 ((IntKind.wrap .i64 ((d86.ops.length : Int) + (d86.first.length : Int))) + (d86.deps.length : Int))) + (d86.at_.length : Int))) + (d86.values.length : Int))) > 0) then
 some false
 else
 nodeGood_j4 y69 rec70)
 else
 (some (goodOpsZ d86.ops)).bind fun r151 =>
 (bif !r151 then
 nodeGood_j9 fu y69 rec70 d86 true
 else
 (some (risingZ d86.first)).bind fun r156 =>
 (bif !r156 then
 nodeGood_j9 fu y69 rec70 d86 true
 else
 (some (risingZ d86.deps)).bind fun r161 =>
 (bif !r161 then
 nodeGood_j9 fu y69 rec70 d86 true
 else
 (some (hasZ d86.first y69)).bind fun r166 =>
 (bif r166 then
 nodeGood_j9 fu y69 rec70 d86 true
 else
 (some (hasZ d86.deps y69)).bind fun r171 =>
 (bif r171 then
 nodeGood_j9 fu y69 rec70 d86 true
 else
 (bif d86.state == 1 then
 (bif decide ((d86.deps.length : Int) > 0) then
 nodeGood_j9 fu y69 rec70 d86 true
 else
 (bif d86.state != 3 then
 (bif decide ((d86.at_.length : Int) > 0) then
 nodeGood_j9 fu y69 rec70 d86 true
 else
 nodeGood_j9 fu y69 rec70 d86 ((d86.at_.length : Int) != (d86.values.length : Int)))
 else
 nodeGood_j9 fu y69 rec70 d86 ((d86.at_.length : Int) != (d86.values.length : Int))))
 else
 (bif d86.state != 3 then
 (bif decide ((d86.at_.length : Int) > 0) then
 nodeGood_j9 fu y69 rec70 d86 true
 else
 nodeGood_j9 fu y69 rec70 d86 ((d86.at_.length : Int) != (d86.values.length : Int)))
 else
 nodeGood_j9 fu y69 rec70 d86 ((d86.at_.length : Int) != (d86.values.length : Int))))))))))
def nodeGood_j10 (fu : Nat) (y69 : Int) (rec70 : Int → Option Bool) (d86 : GEntry) (c205 : Bool) : Option Bool :=
 (bif c205 then
 some false
 else
 nodeGood_j5 fu y69 rec70 d86)
def nodeGood_l2 (fu : Nat) (x1 : GNode) (d16 : Vector Bool 32) : Nat → Int → Option Bool
 | 0, _ => none
 | n + 1, y69 =>
 (bif decide (y69 < 32) then
 (idxV x1.entries y69).bind fun x80 =>
 (some x80).bind fun d86 =>
 (bif decide (d86.state < 0) then
 nodeGood_j10 fu y69 (nodeGood_l2 fu x1 d16 n) d86 true
 else
 (bif decide (d86.state > 3) then
 nodeGood_j10 fu y69 (nodeGood_l2 fu x1 d16 n) d86 true
 else
 (inR y69 32).bind fun _ =>
 (idxV d16 y69).bind fun x216 =>
 nodeGood_j10 fu y69 (nodeGood_l2 fu x1 d16 n) d86 (!((d86.state == 3) == x216))))
 else
 some true)
def nodeGood_l1 (fu : Nat) (x1 : GNode) : Nat → (Vector Bool 32) → Int → Option Bool
 | 0, _, _ => none
 | n + 1, d16, y17 =>
 (bif decide (y17 < (x1.order.length : Int)) then
 (idx x1.order y17).bind fun x31 =>
 (bif decide (x31 < 0) then
 nodeGood_j3 d16 y17 (nodeGood_l1 fu x1 n) x31 true
 else
 (bif decide (x31 ≥ 32) then
 nodeGood_j3 d16 y17 (nodeGood_l1 fu x1 n) x31 true
 else
 (inR x31 32).bind fun _ =>
 (idxV d16 x31).bind fun x58 =>
 (bif x58 then
 nodeGood_j3 d16 y17 (nodeGood_l1 fu x1 n) x31 true
 else
 (inR x31 32).bind fun _ =>
 (idxV x1.entries x31).bind fun x63 =>
 nodeGood_j3 d16 y17 (nodeGood_l1 fu x1 n) x31 (x63.state != 3))))
 else
 nodeGood_l2 fu x1 d16 fu 0)
def nodeGoodD (fu : Nat) (x1 : GNode) : Option Bool :=
 (some (Zr.zd : Vector Bool 32)).bind fun d9 =>
 nodeGood_l1 fu x1 fu d9 0
set_option maxRecDepth 100000 in
set_option maxHeartbeats 4000000 in
theorem nodeGood_ok {M : Mm} {w : World} {cx1 : List Value} {x1 : GNode} {fu : Nat} {r : Bool} (hA : Agree M w) (hcx1 : rep M cx1 x1) (hz : nodeGoodD fu x1 = some r) :
    Calls Try.prog 21 #[.agg cx1.toArray] w (GivesV w (.bool r)) := by
 refine calls_W Try.func21 rfl 178 rfl rfl (by kernel_rfl) fun T hT => ?_
 have hT_0 : T 0 = .agg cx1.toArray := hT 0
 clear hT
 have hE := Mm.ext.refl w.heap.size noX M
 have hS : St w noX M [] w := St.start hA
 rw [nodeGoodD] at hz
 refine W_seq <|W_reg ?_
 refine WL_c (O_box (v := .agg cx1.toArray) (cs := cx1) hT_0 rfl hS ?_)
 intro b3 w2 hb3 hS
 replace hS : St w noX M [.box b3 cx1 48] w2 := hS
 refine WL_y (Y_assign (.bool false) rfl) ?_
 refine WL_nil (nm_then ?_)
 refine W_seq <|W_reg ?_
 have z4 : rep M (Zr.zc (Vector Bool 32)) (Zr.zd : Vector Bool 32) := Zr.zr
 refine WL_y (Y_zarr tz61 ia61) ?_
 refine WL_c (O_alloc tz61 hS ?_)
 intro b6 w5 hb6 hS
 replace hS : St w noX M [.box b6 (Zr.zc (Vector Bool 32)) 61, .box b3 cx1 48] w5 := hS
 have zb6 : rep M (Zr.zc (Vector Bool 32)) (Zr.zd : Vector Bool 32) := Zr.zr
 have hw8 : ((Zr.zc (Vector Bool 32)) : List Value).length = 32 := Rep.len z4
 have hl8 : ((Zr.zc (Vector Bool 32))).length = 32 := Rep.len zb6
 obtain ⟨d9, hd8, hz⟩ := bind_ok hz
 have hb8 : rep M (pt (Zr.zc (Vector Bool 32)) (0) (Zr.zc (Vector Bool 32))) d9 := rep_eq (rep_whole (k := 32) (by rw [pt_length (by omega)]; exact hl8) (rep_leaf rfl z4 (by omega))) hd8
 generalize hg8 : (pt (Zr.zc (Vector Bool 32)) (0) (Zr.zc (Vector Bool 32))) = cs8 at hb8
 refine WL_c (O_st (j := 0) (v := .agg (Zr.zc (Vector Bool 32)).toArray) (ws := (Zr.zc (Vector Bool 32))) hS rfl (by kernel_rfl) rfl rfl rfl hw8 (Rep.one z4) (by omega) ?_)
 rw [hg8]
 clear hg8
 intro w7 hS
 replace hS : St w noX M [.box b6 cs8 61, .box b3 cx1 48] w7 := hS
 refine WL_nil (nm_then ?_)
 refine W_seq <|W_seq <|W_reg <|WL_y (Y_fa fa48_1 rfl) ?_
 obtain ⟨v10, ev10, hv10⟩ := (GNode.p1 (rep_root (k := 201) rfl hcx1))
 refine WL_y (Y_ld1 v10 ts27 rfl (hS.bvB 1 rfl) ev10) ?_
 obtain ⟨a11, c11, hv11, _⟩ := repL_shape hv10
 refine WL_y (Y_lenL Try.underlying27 (tr2 hv11 rfl)) <|WL_y (Y_move (.int .i64 0) rfl) ?_
 refine WL_nil (nm_then ?_)
 refine W_block ?_
 refine W_loop (fun k19 T' w' => ∃ M13 cs15 d16 y17, Mm.ext w.heap.size noX M M13 ∧ St w noX M13 [.box b6 cs15 61, .box b3 cx1 48] w' ∧ rep M13 cs15 d16 ∧ T' 1 = .pointer (some ⟨b3, 0, none⟩) ∧ T' 3 = .pointer (some ⟨b6, 0, none⟩) ∧ T' 12 = v10 ∧ T' 13 = .int .i64 (x1.order.length : Int) ∧ T' 14 = .int .i64 y17 ∧ nodeGood_l1 fu x1 k19 d16 y17 = some r) fu ?_ ?_ ?_
 exact ⟨M, cs8, d9, (0 : Int), (Mm.ext.refl _ _ _), hS, hb8, rfl, rfl, rfl, rfl, rfl, hz⟩
 rintro T' w' ⟨_, _, _, _, _, _, _, _, _, _, _, _, hz⟩
 rw [nodeGood_l1] at hz
 cases hz
 intro k19
 rintro T14 w12 ⟨M13, cs15, d16, y17, hx21, hS, hb15, hT14_1, hT14_3, hT14_12, hT14_13, hT14_14, hz⟩
 replace hcx1 := Rep.mono hx21.1 hcx1
 replace hv10 := repL.mono hx21.1 hv10
 replace hE := Mm.ext.trans hE hx21
 have hF20 := hx21
 rw [nodeGood_l1] at hz
 obtain ⟨rec18, hrec18⟩ : ∃ f, f = nodeGood_l1 fu x1 k19 := ⟨_, rfl⟩
 rw [← hrec18] at hz
 refine W_seq <|W_reg <|WL_y (Y_lss hT14_14 hT14_13) ?_
 refine WL_nil (nm_then ?_)
 refine W_seq ?_
 refine W_cond rfl (fun hc22 => ?_) (fun hc22 => ?_)
 replace hz := bif_ok_t hz hc22
 refine W_skip (nm_then ?_)
 refine W_seqJ (fun T' w' => ∃ M24 cs26 d27, Mm.ext w.heap.size noX M13 M24 ∧ St w noX M24 [.box b6 cs26 61, .box b3 cx1 48] w' ∧ rep M24 cs26 d27 ∧ T' 1 = .pointer (some ⟨b3, 0, none⟩) ∧ T' 3 = .pointer (some ⟨b6, 0, none⟩) ∧ T' 12 = v10 ∧ T' 13 = .int .i64 (x1.order.length : Int) ∧ T' 14 = .int .i64 y17 ∧ nodeGood_j1 y17 rec18 d27 = some r) ?_ ?_
 have hF29 := Mm.ext.refl w.heap.size noX M13
 refine W_block <|W_seq <|W_reg ?_
 obtain ⟨x31, hx30, hz⟩ := bind_ok hz
 obtain ⟨b30, o30, c30, p30, hv30, hi30, hj30, hM30, hr30⟩ := repL_at hv10 hx30
 replace hr30 : rep _ (sl p30 (o30 + Int.toNat y17 * 1) 1) x31 := hr30
 refine WL_y (Y_ixL il27 hT14_12 hv30 hT14_14 hi30 hj30) <|WL_y (Y_ld1 (.int .i64 x31) ts3 rfl (hS.bvM hM30) hr30) <|WL_y (Y_assign (.int .i64 x31) rfl) ?_
 refine WL_nil (nm_then ?_)
 refine W_seqJ (fun T' w' => ∃ M33, Mm.ext w.heap.size noX M13 M33 ∧ St w noX M33 [.box b6 cs15 61, .box b3 cx1 48] w' ∧ T' 1 = .pointer (some ⟨b3, 0, none⟩) ∧ T' 3 = .pointer (some ⟨b6, 0, none⟩) ∧ T' 5 = .int .i64 x31 ∧ T' 12 = v10 ∧ T' 13 = .int .i64 (x1.order.length : Int) ∧ T' 14 = .int .i64 y17 ∧ nodeGood_j2 d16 y17 rec18 x31 = some r) ?_ ?_
 have hF46 := Mm.ext.refl w.heap.size noX M13
 refine W_seqJ (fun T' w' => ∃ M48 c50, Mm.ext w.heap.size noX M13 M48 ∧ St w noX M48 [.box b6 cs15 61, .box b3 cx1 48] w' ∧ T' 1 = .pointer (some ⟨b3, 0, none⟩) ∧ T' 3 = .pointer (some ⟨b6, 0, none⟩) ∧ T' 5 = .int .i64 x31 ∧ T' 12 = v10 ∧ T' 13 = .int .i64 (x1.order.length : Int) ∧ T' 14 = .int .i64 y17 ∧ T' 36 = .bool c50 ∧ nodeGood_j3 d16 y17 rec18 x31 c50 = some r) ?_ ?_
 have hF53 := Mm.ext.refl w.heap.size noX M13
 refine W_reg <|WL_y (Y_move (.int .i64 x31) rfl) <|WL_y (Y_lss rfl rfl) <|WL_y (Y_move (.bool (decide (x31 < 0))) rfl) ?_
 rcases ic hz with ⟨hc54, hz⟩ | ⟨hc54, hz⟩ <;> rw [hc54]
 refine WL_d 16 rfl ?_
 refine WL_nil (nm_then ?_)
 exact ⟨M13, true, hF53, hS, hT14_1, hT14_3, rfl, hT14_12, hT14_13, hT14_14, rfl, hz⟩
 refine WL_gy rfl rfl (Y_move (.int .i64 x31) rfl) <|WL_gy rfl rfl (Y_geq rfl rfl) <|WL_d 2 rfl ?_
 rcases ic hz with ⟨hc55, hz⟩ | ⟨hc55, hz⟩ <;> rw [hc55]
 refine WL_d 12 rfl ?_
 refine WL_nil (nm_then ?_)
 exact ⟨M13, true, hF53, hS, hT14_1, hT14_3, rfl, hT14_12, hT14_13, hT14_14, rfl, hz⟩
 refine WL_gy rfl rfl (Y_move (.int .i64 x31) rfl) ?_
 obtain ⟨u56, hx57, hz⟩ := bind_ok hz
 obtain ⟨hx57a, hx57b⟩ := inR_some hx57
 refine WL_gy rfl rfl (Y_ixA ia61 hT14_3 rfl hx57a hx57b) ?_
 obtain ⟨x58, hx59, hz⟩ := bind_ok hz
 refine WL_gy rfl rfl (Y_ld1 (.bool x58) ts4 rfl (hS.bvB 0 rfl) (vp (k := 1) rfl rfl (rep_root (k := 32) rfl hb15) hx59)) <|WL_d 2 rfl ?_
 rcases ic hz with ⟨hc60, hz⟩ | ⟨hc60, hz⟩ <;> rw [hc60]
 refine WL_d 7 rfl ?_
 refine WL_nil (nm_then ?_)
 exact ⟨M13, true, hF53, hS, hT14_1, hT14_3, rfl, hT14_12, hT14_13, hT14_14, rfl, hz⟩
 refine WL_gy rfl rfl (Y_move (.int .i64 x31) rfl) <|WL_gy rfl rfl (Y_fa fa48_0 hT14_1) ?_
 obtain ⟨u61, hx62, hz⟩ := bind_ok hz
 obtain ⟨hx62a, hx62b⟩ := inR_some hx62
 refine WL_gy rfl rfl (Y_ixA ia45 rfl rfl hx62a hx62b) <|WL_gy rfl rfl (Y_fa fa44_0 rfl) ?_
 obtain ⟨x63, hx64, hz⟩ := bind_ok hz
 refine WL_gy rfl rfl (Y_ld1 (.int .i64 x63.state) ts3 rfl (hS.bvB 1 rfl) (GEntry.p0 (vp (k := 6) rfl rfl (GNode.p0 (rep_root (k := 201) rfl hcx1)) hx64))) <|WL_gy rfl rfl (Y_neq rfl rfl) <|WL_y (Y_pick_f (.bool (x63.state != 3)) rfl rfl) ?_
 refine WL_nil (nm_then ?_)
 exact ⟨M13, (x63.state != 3), hF53, hS, hT14_1, hT14_3, rfl, hT14_12, hT14_13, hT14_14, rfl, hz⟩
 rintro T49 w47 ⟨M48, c50, hx51, hS, hT49_1, hT49_3, hT49_5, hT49_12, hT49_13, hT49_14, hT49_36, hz⟩
 replace hcx1 := Rep.mono hx51.1 hcx1
 replace hv10 := repL.mono hx51.1 hv10
 replace hb15 := Rep.mono hx51.1 hb15
 replace hE := Mm.ext.trans hE hx51
 replace hF20 := Mm.ext.trans hF20 hx51
 replace hF29 := Mm.ext.trans hF29 hx51
 replace hF46 := Mm.ext.trans hF46 hx51
 rw [nodeGood_j3] at hz
 refine W_cond hT49_36 (fun hc52 => ?_) (fun hc52 => ?_)
 replace hz := bif_ok_t hz hc52
 refine W_seq <|W_reg <|WL_y (Y_assign (.bool false) rfl) ?_
 refine WL_nil (nm_then ?_)
 cases hz
 exact W_ret (rt_then (rt_blk (rt_then (rt_then (rt_blk (rt_then (R_t1 rfl rfl ⟨rfl, (St.dropB (St.dropB hS hb6) hb3).kept⟩)))))))
 replace hz := bif_ok_f hz hc52
 refine W_skip (nm_then ?_)
 exact ⟨M48, hF46, hS, hT49_1, hT49_3, hT49_5, hT49_12, hT49_13, hT49_14, hz⟩
 rintro T34 w32 ⟨M33, hx35, hS, hT34_1, hT34_3, hT34_5, hT34_12, hT34_13, hT34_14, hz⟩
 replace hcx1 := Rep.mono hx35.1 hcx1
 replace hv10 := repL.mono hx35.1 hv10
 replace hb15 := Rep.mono hx35.1 hb15
 replace hE := Mm.ext.trans hE hx35
 replace hF20 := Mm.ext.trans hF20 hx35
 replace hF29 := Mm.ext.trans hF29 hx35
 rw [nodeGood_j2] at hz
 refine W_reg <|WL_y (Y_move (.int .i64 x31) hT34_5) ?_
 obtain ⟨u36, hx37, hz⟩ := bind_ok hz
 obtain ⟨hx37a, hx37b⟩ := inR_some hx37
 refine WL_y (Y_ixA ia61 hT34_3 rfl hx37a hx37b) ?_
 obtain ⟨x40, hx41, hz⟩ := bind_ok hz
 have hw39 : ([.bool true] : List Value).length = 1 := Rep.len (show rep M33 [Value.bool true] (true : Bool) from rfl)
 have hl39 : (cs15).length = 32 := Rep.len hb15
 have hq42 := (idxV_some hx41)
 obtain ⟨a43, hx44, hz⟩ := bind_ok hz
 obtain ⟨d45, hd39, hz⟩ := bind_ok hz
 have hb39 : rep M33 (pt cs15 (0 + Int.toNat x31 * 1) [.bool true]) d45 := rep_eq (rep_whole (k := 32) (by rw [pt_length (by omega)]; exact hl39) (vs (k := 1) rfl rfl (rep_root (k := 32) rfl hb15) (rep_leaf rfl (show rep M33 [Value.bool true] (true : Bool) from rfl) (by omega)) hx44 (by omega) (by omega) (by omega))) hd39
 generalize hg39 : (pt cs15 (0 + Int.toNat x31 * 1) [.bool true]) = cs39 at hb39
 refine WL_c (O_st (j := 0) (v := .bool true) (ws := [.bool true]) hS rfl (by kernel_rfl) rfl rfl rfl hw39 (Rep.one (show rep M33 [Value.bool true] (true : Bool) from rfl)) (by omega) ?_)
 rw [hg39]
 clear hg39
 intro w38 hS
 replace hS : St w noX M33 [.box b6 cs39 61, .box b3 cx1 48] w38 := hS
 refine WL_nil (nm_blk ?_)
 refine (nm_then ?_)
 exact ⟨M33, cs39, d45, hF29, hS, hb39, hT34_1, hT34_3, hT34_12, hT34_13, hT34_14, hz⟩
 rintro T25 w23 ⟨M24, cs26, d27, hx28, hS, hb26, hT25_1, hT25_3, hT25_12, hT25_13, hT25_14, hz⟩
 replace hcx1 := Rep.mono hx28.1 hcx1
 replace hv10 := repL.mono hx28.1 hv10
 replace hE := Mm.ext.trans hE hx28
 replace hF20 := Mm.ext.trans hF20 hx28
 rw [nodeGood_j1] at hz
 refine W_reg <|WL_y (Y_add hT25_14 rfl) <|WL_y (Y_move (.int .i64 (IntKind.wrap .i64 (y17 + 1))) rfl) ?_
 refine WL_nil (nm_then ?_)
 exact ⟨M24, cs26, d27, (IntKind.wrap .i64 (y17 + 1)), hF20, hS, hb26, hT25_1, hT25_3, hT25_12, hT25_13, rfl, (by rw [← hrec18]; exact hz)⟩
 replace hz := bif_ok_f hz hc22
 refine W_exit <|ex_then <|ex_then <|ex_hit ?_
 refine (nm_then ?_)
 refine W_seq <|W_seq <|W_reg <|WL_y (Y_fa fa48_0 hT14_1) ?_
 have ha65 := (GNode.p0 (rep_root (k := 201) rfl hcx1))
 refine WL_y (Y_ldn ta45 rfl (hS.bvB 1 rfl) (Rep.len ha65)) <|WL_y (Y_move (.int .i64 0) rfl) ?_
 refine WL_nil (nm_then ?_)
 refine W_block ?_
 refine W_loop (fun k71 T' w' => ∃ M67 y69, Mm.ext w.heap.size noX M13 M67 ∧ St w noX M67 [.box b6 cs15 61, .box b3 cx1 48] w' ∧ T' 3 = .pointer (some ⟨b6, 0, none⟩) ∧ T' 41 = .agg (sl cx1 (0 + 0) 192).toArray ∧ T' 42 = .int .i64 y69 ∧ nodeGood_l2 fu x1 d16 k71 y69 = some r) fu ?_ ?_ ?_
 exact ⟨M13, (0 : Int), (Mm.ext.refl _ _ _), hS, hT14_3, rfl, rfl, hz⟩
 rintro T' w' ⟨_, _, _, _, _, _, _, hz⟩
 rw [nodeGood_l2] at hz
 cases hz
 intro k71
 rintro T68 w66 ⟨M67, y69, hx73, hS, hT68_3, hT68_41, hT68_42, hz⟩
 replace hcx1 := Rep.mono hx73.1 hcx1
 replace hb15 := Rep.mono hx73.1 hb15
 replace ha65 := Rep.mono hx73.1 ha65
 replace hE := Mm.ext.trans hE hx73
 replace hF20 := Mm.ext.trans hF20 hx73
 have hF72 := hx73
 rw [nodeGood_l2] at hz
 obtain ⟨rec70, hrec70⟩ : ∃ f, f = nodeGood_l2 fu x1 d16 k71 := ⟨_, rfl⟩
 rw [← hrec70] at hz
 refine W_seq <|W_reg <|WL_y (Y_lss hT68_42 rfl) ?_
 refine WL_nil (nm_then ?_)
 refine W_seq ?_
 refine W_cond rfl (fun hc74 => ?_) (fun hc74 => ?_)
 replace hz := bif_ok_t hz hc74
 refine W_skip (nm_then ?_)
 refine W_seqJ (fun T' w' => ∃ M76, Mm.ext w.heap.size noX M67 M76 ∧ St w noX M76 [.box b6 cs15 61, .box b3 cx1 48] w' ∧ T' 3 = .pointer (some ⟨b6, 0, none⟩) ∧ T' 41 = .agg (sl cx1 (0 + 0) 192).toArray ∧ T' 42 = .int .i64 y69 ∧ nodeGood_j4 y69 rec70 = some r) ?_ ?_
 have hF79 := Mm.ext.refl w.heap.size noX M67
 refine W_block <|W_seq <|W_reg <|WL_y (Y_move (.int .i64 y69) hT68_42) ?_
 obtain ⟨x80, hx81, hz⟩ := bind_ok hz
 obtain ⟨hx81a, hx81b, hx81⟩ := repV_at ha65 hx81
 replace hx81 : rep _ (sl (sl cx1 (0 + 0) 192) (Int.toNat y69 * 6) 6) x80 := hx81
 refine WL_y (Y_ixVn iv45 hT68_41 hT68_42 hx81a hx81b) ?_
 refine WL_c (O_alloc tz44 hS ?_)
 intro b83 w82 hb83 hS
 replace hS : St w noX M67 [.box b83 (Zr.zc GEntry) 44, .box b6 cs15 61, .box b3 cx1 48] w82 := hS
 have zb83 : rep M67 (Zr.zc GEntry) (Zr.zd : GEntry) := Zr.zr
 refine WL_y (Y_assign (.int .i64 y69) rfl) ?_
 have hw85 : ((sl (sl cx1 (0 + 0) 192) (Int.toNat y69 * 6) 6) : List Value).length = 6 := Rep.len hx81
 have hl85 : ((Zr.zc GEntry)).length = 6 := Rep.len zb83
 obtain ⟨d86, hd85, hz⟩ := bind_ok hz
 have hb85 : rep M67 (pt (Zr.zc GEntry) (0) (sl (sl cx1 (0 + 0) 192) (Int.toNat y69 * 6) 6)) d86 := rep_eq (rep_whole (k := 6) (by rw [pt_length (by omega)]; exact hl85) (rep_leaf rfl hx81 (by omega))) hd85
 generalize hg85 : (pt (Zr.zc GEntry) (0) (sl (sl cx1 (0 + 0) 192) (Int.toNat y69 * 6) 6)) = cs85 at hb85
 refine WL_c (O_st (j := 0) (v := .agg (sl (sl cx1 (0 + 0) 192) (Int.toNat y69 * 6) 6).toArray) (ws := (sl (sl cx1 (0 + 0) 192) (Int.toNat y69 * 6) 6)) hS rfl (by kernel_rfl) rfl rfl rfl hw85 (Rep.one hx81) (by omega) ?_)
 rw [hg85]
 clear hg85
 intro w84 hS
 replace hS : St w noX M67 [.box b83 cs85 44, .box b6 cs15 61, .box b3 cx1 48] w84 := hS
 refine WL_nil (nm_then ?_)
 refine W_seqJ (fun T' w' => ∃ M88, Mm.ext w.heap.size noX M67 M88 ∧ St w noX M88 [.box b83 cs85 44, .box b6 cs15 61, .box b3 cx1 48] w' ∧ T' 3 = .pointer (some ⟨b6, 0, none⟩) ∧ T' 6 = .int .i64 y69 ∧ T' 7 = .pointer (some ⟨b83, 0, none⟩) ∧ T' 41 = .agg (sl cx1 (0 + 0) 192).toArray ∧ T' 42 = .int .i64 y69 ∧ nodeGood_j5 fu y69 rec70 d86 = some r) ?_ ?_
 have hF201 := Mm.ext.refl w.heap.size noX M67
 refine W_seqJ (fun T' w' => ∃ M203 c205, Mm.ext w.heap.size noX M67 M203 ∧ St w noX M203 [.box b83 cs85 44, .box b6 cs15 61, .box b3 cx1 48] w' ∧ T' 3 = .pointer (some ⟨b6, 0, none⟩) ∧ T' 6 = .int .i64 y69 ∧ T' 7 = .pointer (some ⟨b83, 0, none⟩) ∧ T' 41 = .agg (sl cx1 (0 + 0) 192).toArray ∧ T' 42 = .int .i64 y69 ∧ T' 62 = .bool c205 ∧ nodeGood_j10 fu y69 rec70 d86 c205 = some r) ?_ ?_
 have hF208 := Mm.ext.refl w.heap.size noX M67
 refine W_drawB (Rd M67 [.box b83 cs85 44, .box b6 cs15 61]) (inL []) mixed hS fun w209 hS => ?_
 have hG210 := Mm.ext.refl w.heap.size noX M67
 have hR211 : Rd M67 [.box b83 cs85 44, .box b6 cs15 61] w209 := Rd.of hS hG210 (by simp)
 refine WB_y (i := 0) rfl (by kernel_rfl) rfl (Y_fa fa44_0 rfl) (fun _ => hR211) <|WB_ld (i := 1) rfl (by kernel_rfl) rfl (inL_lt rfl) (by kernel_rfl) (by kernel_rfl) (Y_ld1 (.int .i64 d86.state) ts3 rfl (bvR 0 rfl) (GEntry.p0 (rep_root (k := 6) rfl hb85))) hR211 <|WB_y (i := 2) rfl (by kernel_rfl) rfl (Y_lss rfl rfl) (fun _ => hR211) <|WB_y (i := 3) rfl (by kernel_rfl) rfl (Y_move (.bool (decide (d86.state < 0))) rfl) (fun _ => hR211) ?_
 rcases ic hz with ⟨hc212, hz⟩ | ⟨hc212, hz⟩ <;> rw [hc212]
 refine WB_s (i := 4) (j := 3) rfl (by kernel_rfl) rfl rfl rfl rfl (fun _ => hR211) <|WB_s (i := 5) (j := 3) rfl (by kernel_rfl) rfl rfl rfl rfl (fun _ => hR211) <|WB_s (i := 6) (j := 3) rfl (by kernel_rfl) rfl rfl rfl rfl (fun _ => hR211) <|WB_y (i := 7) rfl (by kernel_rfl) rfl (Y_pick_t (.bool true) rfl rfl) (fun _ => hR211) <|WB_y (i := 8) rfl (by kernel_rfl) rfl (Y_move (.bool true) rfl) (fun _ => hR211) <|WB_s (i := 9) (j := 8) rfl (by kernel_rfl) rfl rfl rfl rfl (fun _ => hR211) <|WB_s (i := 10) (j := 8) rfl (by kernel_rfl) rfl rfl rfl rfl (fun _ => hR211) <|WB_s (i := 11) (j := 8) rfl (by kernel_rfl) rfl rfl rfl rfl (fun _ => hR211) <|WB_s (i := 12) (j := 8) rfl (by kernel_rfl) rfl rfl rfl rfl (fun _ => hR211) <|WB_s (i := 13) (j := 8) rfl (by kernel_rfl) rfl rfl rfl rfl (fun _ => hR211) <|WB_s (i := 14) (j := 8) rfl (by kernel_rfl) rfl rfl rfl rfl (fun _ => hR211) <|WB_s (i := 15) (j := 8) rfl (by kernel_rfl) rfl rfl rfl rfl (fun _ => hR211) <|WB_y (i := 16) rfl (by kernel_rfl) rfl (Y_pick_t (.bool true) rfl rfl) (fun _ => hR211) ?_
 refine WB_done (by kernel_rfl) (nm_then ?_)
 exact ⟨M67, true, hF208, hS, hT68_3, rfl, rfl, hT68_41, hT68_42, rfl, hz⟩
 refine WB_gy (i := 4) rfl (by kernel_rfl) rfl rfl rfl (Y_fa fa44_0 rfl) (fun _ => hR211) <|WB_gld (i := 5) rfl (by kernel_rfl) rfl (inL_lt rfl) (by kernel_rfl) (by kernel_rfl) rfl rfl (Y_ld1 (.int .i64 d86.state) ts3 rfl (bvR 0 rfl) (GEntry.p0 (rep_root (k := 6) rfl hb85))) hR211 <|WB_gy (i := 6) rfl (by kernel_rfl) rfl rfl rfl (Y_gtr rfl rfl) (fun _ => hR211) <|WB_y (i := 7) rfl (by kernel_rfl) rfl (Y_pick_f (.bool (decide (d86.state > 3))) rfl rfl) (fun _ => hR211) <|WB_y (i := 8) rfl (by kernel_rfl) rfl (Y_move (.bool (decide (d86.state > 3))) rfl) (fun _ => hR211) ?_
 rcases ic hz with ⟨hc213, hz⟩ | ⟨hc213, hz⟩ <;> rw [hc213]
 refine WB_s (i := 9) (j := 8) rfl (by kernel_rfl) rfl rfl rfl rfl (fun _ => hR211) <|WB_s (i := 10) (j := 8) rfl (by kernel_rfl) rfl rfl rfl rfl (fun _ => hR211) <|WB_s (i := 11) (j := 8) rfl (by kernel_rfl) rfl rfl rfl rfl (fun _ => hR211) <|WB_s (i := 12) (j := 8) rfl (by kernel_rfl) rfl rfl rfl rfl (fun _ => hR211) <|WB_s (i := 13) (j := 8) rfl (by kernel_rfl) rfl rfl rfl rfl (fun _ => hR211) <|WB_s (i := 14) (j := 8) rfl (by kernel_rfl) rfl rfl rfl rfl (fun _ => hR211) <|WB_s (i := 15) (j := 8) rfl (by kernel_rfl) rfl rfl rfl rfl (fun _ => hR211) <|WB_y (i := 16) rfl (by kernel_rfl) rfl (Y_pick_t (.bool true) rfl rfl) (fun _ => hR211) ?_
 refine WB_done (by kernel_rfl) (nm_then ?_)
 exact ⟨M67, true, hF208, hS, hT68_3, rfl, rfl, hT68_41, hT68_42, rfl, hz⟩
 refine WB_gy (i := 9) rfl (by kernel_rfl) rfl rfl rfl (Y_fa fa44_0 rfl) (fun _ => hR211) <|WB_gld (i := 10) rfl (by kernel_rfl) rfl (inL_lt rfl) (by kernel_rfl) (by kernel_rfl) rfl rfl (Y_ld1 (.int .i64 d86.state) ts3 rfl (bvR 0 rfl) (GEntry.p0 (rep_root (k := 6) rfl hb85))) hR211 <|WB_gy (i := 11) rfl (by kernel_rfl) rfl rfl rfl (Y_eql rfl rfl) (fun _ => hR211) <|WB_gy (i := 12) rfl (by kernel_rfl) rfl rfl rfl (Y_move (.int .i64 y69) rfl) (fun _ => hR211) ?_
 obtain ⟨u214, hx215, hz⟩ := bind_ok hz
 obtain ⟨hx215a, hx215b⟩ := inR_some hx215
 refine WB_gy (i := 13) rfl (by kernel_rfl) rfl rfl rfl (Y_ixA ia61 hT68_3 rfl hx215a hx215b) (fun _ => hR211) ?_
 obtain ⟨x216, hx217, hz⟩ := bind_ok hz
 refine WB_gld (i := 14) rfl (by kernel_rfl) rfl (inL_lt rfl) (by kernel_rfl) (by kernel_rfl) rfl rfl (Y_ld1 (.bool x216) ts4 rfl (bvR 1 rfl) (vp (k := 1) rfl rfl (rep_root (k := 32) rfl hb15) hx217)) hR211 <|WB_gy (i := 15) rfl (by kernel_rfl) rfl rfl rfl (Y_neB rfl rfl Try.underlying4) (fun _ => hR211) <|WB_y (i := 16) rfl (by kernel_rfl) rfl (Y_pick_f (.bool (!((d86.state == 3) == x216))) rfl rfl) (fun _ => hR211) ?_
 refine WB_done (by kernel_rfl) (nm_then ?_)
 exact ⟨M67, (!((d86.state == 3) == x216)), hF208, hS, hT68_3, rfl, rfl, hT68_41, hT68_42, rfl, hz⟩
 rintro T204 w202 ⟨M203, c205, hx206, hS, hT204_3, hT204_6, hT204_7, hT204_41, hT204_42, hT204_62, hz⟩
 replace hcx1 := Rep.mono hx206.1 hcx1
 replace hb15 := Rep.mono hx206.1 hb15
 replace ha65 := Rep.mono hx206.1 ha65
 replace hb85 := Rep.mono hx206.1 hb85
 replace hE := Mm.ext.trans hE hx206
 replace hF20 := Mm.ext.trans hF20 hx206
 replace hF72 := Mm.ext.trans hF72 hx206
 replace hF79 := Mm.ext.trans hF79 hx206
 replace hF201 := Mm.ext.trans hF201 hx206
 rw [nodeGood_j10] at hz
 refine W_cond hT204_62 (fun hc207 => ?_) (fun hc207 => ?_)
 replace hz := bif_ok_t hz hc207
 refine W_seq <|W_reg <|WL_y (Y_assign (.bool false) rfl) ?_
 refine WL_nil (nm_then ?_)
 cases hz
 exact W_ret (rt_then (rt_blk (rt_then (rt_then (rt_blk (rt_then (R_t1 rfl rfl ⟨rfl, (St.dropB (St.dropB (St.dropB hS hb83) hb6) hb3).kept⟩)))))))
 replace hz := bif_ok_f hz hc207
 refine W_skip (nm_then ?_)
 exact ⟨M203, hF201, hS, hT204_3, hT204_6, hT204_7, hT204_41, hT204_42, hz⟩
 rintro T89 w87 ⟨M88, hx90, hS, hT89_3, hT89_6, hT89_7, hT89_41, hT89_42, hz⟩
 replace hcx1 := Rep.mono hx90.1 hcx1
 replace hb15 := Rep.mono hx90.1 hb15
 replace ha65 := Rep.mono hx90.1 ha65
 replace hb85 := Rep.mono hx90.1 hb85
 replace hE := Mm.ext.trans hE hx90
 replace hF20 := Mm.ext.trans hF20 hx90
 replace hF72 := Mm.ext.trans hF72 hx90
 replace hF79 := Mm.ext.trans hF79 hx90
 rw [nodeGood_j5] at hz
 refine W_seq <|W_seq <|W_reg <|WL_y (Y_fa fa44_0 hT89_7) <|WL_y (Y_ld1 (.int .i64 d86.state) ts3 rfl (hS.bvB 0 rfl) (GEntry.p0 (rep_root (k := 6) rfl hb85))) <|WL_y (Y_eql rfl rfl) ?_
 refine WL_nil (nm_then ?_)
 refine W_cond rfl (fun hc91 => ?_) (fun hc91 => ?_)
 replace hz := bif_ok_t hz hc91
 refine W_seq <|W_seq <|W_reg <|WL_y (Y_fa fa44_1 hT89_7) ?_
 obtain ⟨v92, ev92, hv92⟩ := (GEntry.p1 (rep_root (k := 6) rfl hb85))
 refine WL_y (Y_ld1 v92 ts22 rfl (hS.bvB 0 rfl) ev92) ?_
 obtain ⟨a93, c93, hv93, _⟩ := repL_shape hv92
 refine WL_y (Y_lenL Try.underlying22 (tr2 hv93 rfl)) <|WL_y (Y_fa fa44_2 hT89_7) ?_
 obtain ⟨v94, ev94, hv94⟩ := (GEntry.p2 (rep_root (k := 6) rfl hb85))
 refine WL_y (Y_ld1 v94 ts27 rfl (hS.bvB 0 rfl) ev94) ?_
 obtain ⟨a95, c95, hv95, _⟩ := repL_shape hv94
 refine WL_y (Y_lenL Try.underlying27 (tr2 hv95 rfl)) <|WL_y (Y_add rfl rfl) <|WL_y (Y_fa fa44_3 hT89_7) ?_
 obtain ⟨v96, ev96, hv96⟩ := (GEntry.p3 (rep_root (k := 6) rfl hb85))
 refine WL_y (Y_ld1 v96 ts27 rfl (hS.bvB 0 rfl) ev96) ?_
 obtain ⟨a97, c97, hv97, _⟩ := repL_shape hv96
 refine WL_y (Y_lenL Try.underlying27 (tr2 hv97 rfl)) <|WL_y (Y_add rfl rfl) <|WL_y (Y_fa fa44_4 hT89_7) ?_
 obtain ⟨v98, ev98, hv98⟩ := (GEntry.p4 (rep_root (k := 6) rfl hb85))
 refine WL_y (Y_ld1 v98 ts27 rfl (hS.bvB 0 rfl) ev98) ?_
 obtain ⟨a99, c99, hv99, _⟩ := repL_shape hv98
 refine WL_y (Y_lenL Try.underlying27 (tr2 hv99 rfl)) <|WL_y (Y_add rfl rfl) <|WL_y (Y_fa fa44_5 hT89_7) ?_
 obtain ⟨v100, ev100, hv100⟩ := (GEntry.p5 (rep_root (k := 6) rfl hb85))
 refine WL_y (Y_ld1 v100 ts27 rfl (hS.bvB 0 rfl) ev100) ?_
 obtain ⟨a101, c101, hv101, _⟩ := repL_shape hv100
 refine WL_y (Y_lenL Try.underlying27 (tr2 hv101 rfl)) <|WL_y (Y_add rfl rfl) <|WL_y (Y_gtr rfl rfl) ?_
 refine WL_nil (nm_then ?_)
 refine W_cond rfl (fun hc102 => ?_) (fun hc102 => ?_)
 replace hz := bif_ok_t hz hc102
 refine W_seq <|W_reg <|WL_y (Y_assign (.bool false) rfl) ?_
 refine WL_nil (nm_then ?_)
 cases hz
 exact W_ret (rt_then (rt_then (rt_blk (rt_then (rt_then (rt_blk (rt_then (R_t1 rfl rfl ⟨rfl, (St.dropB (St.dropB (St.dropB hS hb83) hb6) hb3).kept⟩))))))))
 replace hz := bif_ok_f hz hc102
 refine W_skip (nm_then ?_)
 refine W_exit <|ex_then <|ex_hit ?_
 refine (nm_then ?_)
 exact ⟨M88, hF79, (St.dropB hS hb83), hT89_3, hT89_41, hT89_42, hz⟩
 replace hz := bif_ok_f hz hc91
 refine W_skip (nm_then ?_)
 refine W_seqJ (fun T' w' => ∃ M104, Mm.ext w.heap.size noX M88 M104 ∧ St w noX M104 [.box b83 cs85 44, .box b6 cs15 61, .box b3 cx1 48] w' ∧ T' 3 = .pointer (some ⟨b6, 0, none⟩) ∧ T' 7 = .pointer (some ⟨b83, 0, none⟩) ∧ T' 41 = .agg (sl cx1 (0 + 0) 192).toArray ∧ T' 42 = .int .i64 y69 ∧ nodeGood_j6 fu y69 rec70 d86 = some r) ?_ ?_
 have hF140 := Mm.ext.refl w.heap.size noX M88
 refine W_seqJ (fun T' w' => ∃ M142 c144, Mm.ext w.heap.size noX M88 M142 ∧ St w noX M142 [.box b83 cs85 44, .box b6 cs15 61, .box b3 cx1 48] w' ∧ T' 3 = .pointer (some ⟨b6, 0, none⟩) ∧ T' 7 = .pointer (some ⟨b83, 0, none⟩) ∧ T' 41 = .agg (sl cx1 (0 + 0) 192).toArray ∧ T' 42 = .int .i64 y69 ∧ T' 144 = .bool c144 ∧ nodeGood_j9 fu y69 rec70 d86 c144 = some r) ?_ ?_
 have hF147 := Mm.ext.refl w.heap.size noX M88
 refine W_reg <|WL_y (Y_fa fa44_1 hT89_7) ?_
 obtain ⟨v148, ev148, hv148⟩ := (GEntry.p1 (rep_root (k := 6) rfl hb85))
 refine WL_y (Y_ld1 v148 ts22 rfl (hS.bvB 0 rfl) ev148) ?_
 obtain ⟨r151, hr150, hz⟩ := bind_ok hz
 replace hr150 := Option.some.inj hr150
 refine WL_c (O_val (vs := [v148]) (v := .bool r151) cb38 (args1 rfl) hS (hr150 ▸ (c_goodOps hS.agree hv148)) ?_)
 intro w149 hS
 refine WL_y (Y_not rfl) <|WL_y (Y_move (.bool (!r151)) rfl) ?_
 rcases ic hz with ⟨hc152, hz⟩ | ⟨hc152, hz⟩ <;> rw [hc152]
 refine WL_d 54 rfl ?_
 refine WL_nil (nm_then ?_)
 exact ⟨M88, true, hF147, hS, hT89_3, hT89_7, hT89_41, hT89_42, rfl, hz⟩
 refine WL_gy rfl rfl (Y_fa fa44_2 hT89_7) ?_
 obtain ⟨v153, ev153, hv153⟩ := (GEntry.p2 (rep_root (k := 6) rfl hb85))
 refine WL_gy rfl rfl (Y_ld1 v153 ts27 rfl (hS.bvB 0 rfl) ev153) ?_
 obtain ⟨r156, hr155, hz⟩ := bind_ok hz
 replace hr155 := Option.some.inj hr155
 refine WL_g rfl rfl (O_val (vs := [v153]) (v := .bool r156) cb62 (args1 rfl) hS (hr155 ▸ (c_rising hS.agree hv153)) ?_)
 intro w154 hS
 refine WL_gy rfl rfl (Y_not rfl) <|WL_d 2 rfl ?_
 rcases ic hz with ⟨hc157, hz⟩ | ⟨hc157, hz⟩ <;> rw [hc157]
 refine WL_d 48 rfl ?_
 refine WL_nil (nm_then ?_)
 exact ⟨M88, true, hF147, hS, hT89_3, hT89_7, hT89_41, hT89_42, rfl, hz⟩
 refine WL_gy rfl rfl (Y_fa fa44_3 hT89_7) ?_
 obtain ⟨v158, ev158, hv158⟩ := (GEntry.p3 (rep_root (k := 6) rfl hb85))
 refine WL_gy rfl rfl (Y_ld1 v158 ts27 rfl (hS.bvB 0 rfl) ev158) ?_
 obtain ⟨r161, hr160, hz⟩ := bind_ok hz
 replace hr160 := Option.some.inj hr160
 refine WL_g rfl rfl (O_val (vs := [v158]) (v := .bool r161) cb62 (args1 rfl) hS (hr160 ▸ (c_rising hS.agree hv158)) ?_)
 intro w159 hS
 refine WL_gy rfl rfl (Y_not rfl) <|WL_d 2 rfl ?_
 rcases ic hz with ⟨hc162, hz⟩ | ⟨hc162, hz⟩ <;> rw [hc162]
 refine WL_d 42 rfl ?_
 refine WL_nil (nm_then ?_)
 exact ⟨M88, true, hF147, hS, hT89_3, hT89_7, hT89_41, hT89_42, rfl, hz⟩
 refine WL_gy rfl rfl (Y_fa fa44_2 hT89_7) ?_
 obtain ⟨v163, ev163, hv163⟩ := (GEntry.p2 (rep_root (k := 6) rfl hb85))
 refine WL_gy rfl rfl (Y_ld1 v163 ts27 rfl (hS.bvB 0 rfl) ev163) <|WL_gy rfl rfl (Y_move (.int .i64 y69) hT89_6) ?_
 obtain ⟨r166, hr165, hz⟩ := bind_ok hz
 replace hr165 := Option.some.inj hr165
 refine WL_g rfl rfl (O_val (vs := [v163, .int .i64 y69]) (v := .bool r166) cb42 (args2 rfl rfl) hS (hr165 ▸ (c_contains hS.agree hv163)) ?_)
 intro w164 hS
 refine WL_d 2 rfl ?_
 rcases ic hz with ⟨hc167, hz⟩ | ⟨hc167, hz⟩ <;> rw [hc167]
 refine WL_d 36 rfl ?_
 refine WL_nil (nm_then ?_)
 exact ⟨M88, true, hF147, hS, hT89_3, hT89_7, hT89_41, hT89_42, rfl, hz⟩
 refine WL_gy rfl rfl (Y_fa fa44_3 hT89_7) ?_
 obtain ⟨v168, ev168, hv168⟩ := (GEntry.p3 (rep_root (k := 6) rfl hb85))
 refine WL_gy rfl rfl (Y_ld1 v168 ts27 rfl (hS.bvB 0 rfl) ev168) <|WL_gy rfl rfl (Y_move (.int .i64 y69) hT89_6) ?_
 obtain ⟨r171, hr170, hz⟩ := bind_ok hz
 replace hr170 := Option.some.inj hr170
 refine WL_g rfl rfl (O_val (vs := [v168, .int .i64 y69]) (v := .bool r171) cb42 (args2 rfl rfl) hS (hr170 ▸ (c_contains hS.agree hv168)) ?_)
 intro w169 hS
 refine WL_d 2 rfl ?_
 rcases ic hz with ⟨hc172, hz⟩ | ⟨hc172, hz⟩ <;> rw [hc172]
 refine WL_d 30 rfl ?_
 refine WL_nil (nm_then ?_)
 exact ⟨M88, true, hF147, hS, hT89_3, hT89_7, hT89_41, hT89_42, rfl, hz⟩
 refine WL_gy rfl rfl (Y_fa fa44_0 hT89_7) <|WL_gy rfl rfl (Y_ld1 (.int .i64 d86.state) ts3 rfl (hS.bvB 0 rfl) (GEntry.p0 (rep_root (k := 6) rfl hb85))) <|WL_gy rfl rfl (Y_eql rfl rfl) <|WL_gy rfl rfl (Y_move (.bool (d86.state == 1)) rfl) ?_
 rcases ic hz with ⟨hc173, hz⟩ | ⟨hc173, hz⟩ <;> rw [hc173]
 refine WL_gy rfl rfl (Y_fa fa44_3 hT89_7) ?_
 obtain ⟨v174, ev174, hv174⟩ := (GEntry.p3 (rep_root (k := 6) rfl hb85))
 refine WL_gy rfl rfl (Y_ld1 v174 ts27 rfl (hS.bvB 0 rfl) ev174) ?_
 obtain ⟨a175, c175, hv175, _⟩ := repL_shape hv174
 refine WL_gy rfl rfl (Y_lenL Try.underlying27 (tr2 hv175 rfl)) <|WL_gy rfl rfl (Y_gtr rfl rfl) <|WL_d 3 rfl ?_
 rcases ic hz with ⟨hc176, hz⟩ | ⟨hc176, hz⟩ <;> rw [hc176]
 refine WL_d 19 rfl ?_
 refine WL_nil (nm_then ?_)
 exact ⟨M88, true, hF147, hS, hT89_3, hT89_7, hT89_41, hT89_42, rfl, hz⟩
 refine WL_gy rfl rfl (Y_fa fa44_0 hT89_7) <|WL_gy rfl rfl (Y_ld1 (.int .i64 d86.state) ts3 rfl (hS.bvB 0 rfl) (GEntry.p0 (rep_root (k := 6) rfl hb85))) <|WL_gy rfl rfl (Y_neq rfl rfl) <|WL_gy rfl rfl (Y_move (.bool (d86.state != 3)) rfl) ?_
 rcases ic hz with ⟨hc177, hz⟩ | ⟨hc177, hz⟩ <;> rw [hc177]
 refine WL_gy rfl rfl (Y_fa fa44_4 hT89_7) ?_
 obtain ⟨v178, ev178, hv178⟩ := (GEntry.p4 (rep_root (k := 6) rfl hb85))
 refine WL_gy rfl rfl (Y_ld1 v178 ts27 rfl (hS.bvB 0 rfl) ev178) ?_
 obtain ⟨a179, c179, hv179, _⟩ := repL_shape hv178
 refine WL_gy rfl rfl (Y_lenL Try.underlying27 (tr2 hv179 rfl)) <|WL_gy rfl rfl (Y_gtr rfl rfl) <|WL_d 3 rfl ?_
 rcases ic hz with ⟨hc180, hz⟩ | ⟨hc180, hz⟩ <;> rw [hc180]
 refine WL_d 8 rfl ?_
 refine WL_nil (nm_then ?_)
 exact ⟨M88, true, hF147, hS, hT89_3, hT89_7, hT89_41, hT89_42, rfl, hz⟩
 refine WL_gy rfl rfl (Y_fa fa44_4 hT89_7) ?_
 obtain ⟨v181, ev181, hv181⟩ := (GEntry.p4 (rep_root (k := 6) rfl hb85))
 refine WL_gy rfl rfl (Y_ld1 v181 ts27 rfl (hS.bvB 0 rfl) ev181) ?_
 obtain ⟨a182, c182, hv182, _⟩ := repL_shape hv181
 refine WL_gy rfl rfl (Y_lenL Try.underlying27 (tr2 hv182 rfl)) <|WL_gy rfl rfl (Y_fa fa44_5 hT89_7) ?_
 obtain ⟨v183, ev183, hv183⟩ := (GEntry.p5 (rep_root (k := 6) rfl hb85))
 refine WL_gy rfl rfl (Y_ld1 v183 ts27 rfl (hS.bvB 0 rfl) ev183) ?_
 obtain ⟨a184, c184, hv184, _⟩ := repL_shape hv183
 refine WL_gy rfl rfl (Y_lenL Try.underlying27 (tr2 hv184 rfl)) <|WL_gy rfl rfl (Y_neq rfl rfl) <|WL_y (Y_pick_f (.bool ((d86.at_.length : Int) != (d86.values.length : Int))) rfl rfl) ?_
 refine WL_nil (nm_then ?_)
 exact ⟨M88, ((d86.at_.length : Int) != (d86.values.length : Int)), hF147, hS, hT89_3, hT89_7, hT89_41, hT89_42, rfl, hz⟩
 refine WL_d 7 rfl <|WL_gy rfl rfl (Y_fa fa44_4 hT89_7) ?_
 obtain ⟨v185, ev185, hv185⟩ := (GEntry.p4 (rep_root (k := 6) rfl hb85))
 refine WL_gy rfl rfl (Y_ld1 v185 ts27 rfl (hS.bvB 0 rfl) ev185) ?_
 obtain ⟨a186, c186, hv186, _⟩ := repL_shape hv185
 refine WL_gy rfl rfl (Y_lenL Try.underlying27 (tr2 hv186 rfl)) <|WL_gy rfl rfl (Y_fa fa44_5 hT89_7) ?_
 obtain ⟨v187, ev187, hv187⟩ := (GEntry.p5 (rep_root (k := 6) rfl hb85))
 refine WL_gy rfl rfl (Y_ld1 v187 ts27 rfl (hS.bvB 0 rfl) ev187) ?_
 obtain ⟨a188, c188, hv188, _⟩ := repL_shape hv187
 refine WL_gy rfl rfl (Y_lenL Try.underlying27 (tr2 hv188 rfl)) <|WL_gy rfl rfl (Y_neq rfl rfl) <|WL_y (Y_pick_f (.bool ((d86.at_.length : Int) != (d86.values.length : Int))) rfl rfl) ?_
 refine WL_nil (nm_then ?_)
 exact ⟨M88, ((d86.at_.length : Int) != (d86.values.length : Int)), hF147, hS, hT89_3, hT89_7, hT89_41, hT89_42, rfl, hz⟩
 refine WL_d 7 rfl <|WL_gy rfl rfl (Y_fa fa44_0 hT89_7) <|WL_gy rfl rfl (Y_ld1 (.int .i64 d86.state) ts3 rfl (hS.bvB 0 rfl) (GEntry.p0 (rep_root (k := 6) rfl hb85))) <|WL_gy rfl rfl (Y_neq rfl rfl) <|WL_gy rfl rfl (Y_move (.bool (d86.state != 3)) rfl) ?_
 rcases ic hz with ⟨hc189, hz⟩ | ⟨hc189, hz⟩ <;> rw [hc189]
 refine WL_gy rfl rfl (Y_fa fa44_4 hT89_7) ?_
 obtain ⟨v190, ev190, hv190⟩ := (GEntry.p4 (rep_root (k := 6) rfl hb85))
 refine WL_gy rfl rfl (Y_ld1 v190 ts27 rfl (hS.bvB 0 rfl) ev190) ?_
 obtain ⟨a191, c191, hv191, _⟩ := repL_shape hv190
 refine WL_gy rfl rfl (Y_lenL Try.underlying27 (tr2 hv191 rfl)) <|WL_gy rfl rfl (Y_gtr rfl rfl) <|WL_d 3 rfl ?_
 rcases ic hz with ⟨hc192, hz⟩ | ⟨hc192, hz⟩ <;> rw [hc192]
 refine WL_d 8 rfl ?_
 refine WL_nil (nm_then ?_)
 exact ⟨M88, true, hF147, hS, hT89_3, hT89_7, hT89_41, hT89_42, rfl, hz⟩
 refine WL_gy rfl rfl (Y_fa fa44_4 hT89_7) ?_
 obtain ⟨v193, ev193, hv193⟩ := (GEntry.p4 (rep_root (k := 6) rfl hb85))
 refine WL_gy rfl rfl (Y_ld1 v193 ts27 rfl (hS.bvB 0 rfl) ev193) ?_
 obtain ⟨a194, c194, hv194, _⟩ := repL_shape hv193
 refine WL_gy rfl rfl (Y_lenL Try.underlying27 (tr2 hv194 rfl)) <|WL_gy rfl rfl (Y_fa fa44_5 hT89_7) ?_
 obtain ⟨v195, ev195, hv195⟩ := (GEntry.p5 (rep_root (k := 6) rfl hb85))
 refine WL_gy rfl rfl (Y_ld1 v195 ts27 rfl (hS.bvB 0 rfl) ev195) ?_
 obtain ⟨a196, c196, hv196, _⟩ := repL_shape hv195
 refine WL_gy rfl rfl (Y_lenL Try.underlying27 (tr2 hv196 rfl)) <|WL_gy rfl rfl (Y_neq rfl rfl) <|WL_y (Y_pick_f (.bool ((d86.at_.length : Int) != (d86.values.length : Int))) rfl rfl) ?_
 refine WL_nil (nm_then ?_)
 exact ⟨M88, ((d86.at_.length : Int) != (d86.values.length : Int)), hF147, hS, hT89_3, hT89_7, hT89_41, hT89_42, rfl, hz⟩
 refine WL_d 7 rfl <|WL_gy rfl rfl (Y_fa fa44_4 hT89_7) ?_
 obtain ⟨v197, ev197, hv197⟩ := (GEntry.p4 (rep_root (k := 6) rfl hb85))
 refine WL_gy rfl rfl (Y_ld1 v197 ts27 rfl (hS.bvB 0 rfl) ev197) ?_
 obtain ⟨a198, c198, hv198, _⟩ := repL_shape hv197
 refine WL_gy rfl rfl (Y_lenL Try.underlying27 (tr2 hv198 rfl)) <|WL_gy rfl rfl (Y_fa fa44_5 hT89_7) ?_
 obtain ⟨v199, ev199, hv199⟩ := (GEntry.p5 (rep_root (k := 6) rfl hb85))
 refine WL_gy rfl rfl (Y_ld1 v199 ts27 rfl (hS.bvB 0 rfl) ev199) ?_
 obtain ⟨a200, c200, hv200, _⟩ := repL_shape hv199
 refine WL_gy rfl rfl (Y_lenL Try.underlying27 (tr2 hv200 rfl)) <|WL_gy rfl rfl (Y_neq rfl rfl) <|WL_y (Y_pick_f (.bool ((d86.at_.length : Int) != (d86.values.length : Int))) rfl rfl) ?_
 refine WL_nil (nm_then ?_)
 exact ⟨M88, ((d86.at_.length : Int) != (d86.values.length : Int)), hF147, hS, hT89_3, hT89_7, hT89_41, hT89_42, rfl, hz⟩
 rintro T143 w141 ⟨M142, c144, hx145, hS, hT143_3, hT143_7, hT143_41, hT143_42, hT143_144, hz⟩
 replace hcx1 := Rep.mono hx145.1 hcx1
 replace hb15 := Rep.mono hx145.1 hb15
 replace ha65 := Rep.mono hx145.1 ha65
 replace hb85 := Rep.mono hx145.1 hb85
 replace hE := Mm.ext.trans hE hx145
 replace hF20 := Mm.ext.trans hF20 hx145
 replace hF72 := Mm.ext.trans hF72 hx145
 replace hF79 := Mm.ext.trans hF79 hx145
 replace hF140 := Mm.ext.trans hF140 hx145
 rw [nodeGood_j9] at hz
 refine W_cond hT143_144 (fun hc146 => ?_) (fun hc146 => ?_)
 replace hz := bif_ok_t hz hc146
 refine W_seq <|W_reg <|WL_y (Y_assign (.bool false) rfl) ?_
 refine WL_nil (nm_then ?_)
 cases hz
 exact W_ret (rt_then (rt_blk (rt_then (rt_then (rt_blk (rt_then (R_t1 rfl rfl ⟨rfl, (St.dropB (St.dropB (St.dropB hS hb83) hb6) hb3).kept⟩)))))))
 replace hz := bif_ok_f hz hc146
 refine W_skip (nm_then ?_)
 exact ⟨M142, hF140, hS, hT143_3, hT143_7, hT143_41, hT143_42, hz⟩
 rintro T105 w103 ⟨M104, hx106, hS, hT105_3, hT105_7, hT105_41, hT105_42, hz⟩
 replace hcx1 := Rep.mono hx106.1 hcx1
 replace hb15 := Rep.mono hx106.1 hb15
 replace ha65 := Rep.mono hx106.1 ha65
 replace hb85 := Rep.mono hx106.1 hb85
 replace hE := Mm.ext.trans hE hx106
 replace hF20 := Mm.ext.trans hF20 hx106
 replace hF72 := Mm.ext.trans hF72 hx106
 replace hF79 := Mm.ext.trans hF79 hx106
 rw [nodeGood_j6] at hz
 refine W_seq <|W_reg <|WL_y (Y_fa fa44_4 hT105_7) ?_
 obtain ⟨v107, ev107, hv107⟩ := (GEntry.p4 (rep_root (k := 6) rfl hb85))
 refine WL_y (Y_ld1 v107 ts27 rfl (hS.bvB 0 rfl) ev107) ?_
 obtain ⟨a108, c108, hv108, _⟩ := repL_shape hv107
 refine WL_y (Y_lenL Try.underlying27 (tr2 hv108 rfl)) <|WL_y (Y_move (.int .i64 0) rfl) ?_
 refine WL_nil (nm_then ?_)
 refine W_block ?_
 refine W_loop (fun k114 T' w' => ∃ M110 y112, Mm.ext w.heap.size noX M104 M110 ∧ St w noX M110 [.box b83 cs85 44, .box b6 cs15 61, .box b3 cx1 48] w' ∧ T' 3 = .pointer (some ⟨b6, 0, none⟩) ∧ T' 7 = .pointer (some ⟨b83, 0, none⟩) ∧ T' 41 = .agg (sl cx1 (0 + 0) 192).toArray ∧ T' 42 = .int .i64 y69 ∧ T' 146 = v107 ∧ T' 147 = .int .i64 (d86.at_.length : Int) ∧ T' 148 = .int .i64 y112 ∧ nodeGood_l3 y69 rec70 d86 k114 y112 = some r) fu ?_ ?_ ?_
 exact ⟨M104, (0 : Int), (Mm.ext.refl _ _ _), hS, hT105_3, hT105_7, hT105_41, hT105_42, rfl, rfl, rfl, hz⟩
 rintro T' w' ⟨_, _, _, _, _, _, _, _, _, _, _, hz⟩
 rw [nodeGood_l3] at hz
 cases hz
 intro k114
 rintro T111 w109 ⟨M110, y112, hx116, hS, hT111_3, hT111_7, hT111_41, hT111_42, hT111_146, hT111_147, hT111_148, hz⟩
 replace hcx1 := Rep.mono hx116.1 hcx1
 replace hb15 := Rep.mono hx116.1 hb15
 replace ha65 := Rep.mono hx116.1 ha65
 replace hb85 := Rep.mono hx116.1 hb85
 replace hv107 := repL.mono hx116.1 hv107
 replace hE := Mm.ext.trans hE hx116
 replace hF20 := Mm.ext.trans hF20 hx116
 replace hF72 := Mm.ext.trans hF72 hx116
 replace hF79 := Mm.ext.trans hF79 hx116
 have hF115 := hx116
 rw [nodeGood_l3] at hz
 obtain ⟨rec113, hrec113⟩ : ∃ f, f = nodeGood_l3 y69 rec70 d86 k114 := ⟨_, rfl⟩
 rw [← hrec113] at hz
 refine W_seq <|W_reg <|WL_y (Y_lss hT111_148 hT111_147) ?_
 refine WL_nil (nm_then ?_)
 refine W_seq ?_
 refine W_cond rfl (fun hc117 => ?_) (fun hc117 => ?_)
 replace hz := bif_ok_t hz hc117
 refine W_skip (nm_then ?_)
 refine W_seqJ (fun T' w' => ∃ M119, Mm.ext w.heap.size noX M110 M119 ∧ St w noX M119 [.box b83 cs85 44, .box b6 cs15 61, .box b3 cx1 48] w' ∧ T' 3 = .pointer (some ⟨b6, 0, none⟩) ∧ T' 7 = .pointer (some ⟨b83, 0, none⟩) ∧ T' 41 = .agg (sl cx1 (0 + 0) 192).toArray ∧ T' 42 = .int .i64 y69 ∧ T' 146 = v107 ∧ T' 147 = .int .i64 (d86.at_.length : Int) ∧ T' 148 = .int .i64 y112 ∧ nodeGood_j7 y112 rec113 = some r) ?_ ?_
 have hF122 := Mm.ext.refl w.heap.size noX M110
 refine W_block <|W_seq <|W_reg <|WL_y (Y_move (.int .i64 y112) hT111_148) ?_
 obtain ⟨x124, hx123, hz⟩ := bind_ok hz
 obtain ⟨b123, o123, c123, p123, hv123, hi123, hj123, hM123, hr123⟩ := repL_at hv107 hx123
 replace hr123 : rep _ (sl p123 (o123 + Int.toNat y112 * 1) 1) x124 := hr123
 refine WL_y (Y_ixL il27 hT111_146 hv123 hT111_148 hi123 hj123) <|WL_y (Y_ld1 (.int .i64 x124) ts3 rfl (hS.bvM hM123) hr123) <|WL_d 2 rfl ?_
 refine WL_nil (nm_then ?_)
 refine W_seqJ (fun T' w' => ∃ M126 c128, Mm.ext w.heap.size noX M110 M126 ∧ St w noX M126 [.box b83 cs85 44, .box b6 cs15 61, .box b3 cx1 48] w' ∧ T' 3 = .pointer (some ⟨b6, 0, none⟩) ∧ T' 7 = .pointer (some ⟨b83, 0, none⟩) ∧ T' 41 = .agg (sl cx1 (0 + 0) 192).toArray ∧ T' 42 = .int .i64 y69 ∧ T' 146 = v107 ∧ T' 147 = .int .i64 (d86.at_.length : Int) ∧ T' 148 = .int .i64 y112 ∧ T' 175 = .bool c128 ∧ nodeGood_j8 y112 rec113 c128 = some r) ?_ ?_
 have hF131 := Mm.ext.refl w.heap.size noX M110
 refine W_reg <|WL_y (Y_move (.int .i64 x124) rfl) <|WL_y (Y_lss rfl rfl) <|WL_y (Y_move (.bool (decide (x124 < 0))) rfl) ?_
 rcases ic hz with ⟨hc132, hz⟩ | ⟨hc132, hz⟩ <;> rw [hc132]
 refine WL_d 20 rfl ?_
 refine WL_nil (nm_then ?_)
 exact ⟨M110, true, hF131, hS, hT111_3, hT111_7, hT111_41, hT111_42, hT111_146, hT111_147, hT111_148, rfl, hz⟩
 refine WL_gy rfl rfl (Y_move (.int .i64 x124) rfl) <|WL_gy rfl rfl (Y_fa fa44_1 hT111_7) ?_
 obtain ⟨v133, ev133, hv133⟩ := (GEntry.p1 (rep_root (k := 6) rfl hb85))
 refine WL_gy rfl rfl (Y_ld1 v133 ts22 rfl (hS.bvB 0 rfl) ev133) ?_
 obtain ⟨a134, c134, hv134, _⟩ := repL_shape hv133
 refine WL_gy rfl rfl (Y_lenL Try.underlying22 (tr2 hv134 rfl)) <|WL_gy rfl rfl (Y_geq rfl rfl) <|WL_d 2 rfl ?_
 rcases ic hz with ⟨hc135, hz⟩ | ⟨hc135, hz⟩ <;> rw [hc135]
 refine WL_d 13 rfl ?_
 refine WL_nil (nm_then ?_)
 exact ⟨M110, true, hF131, hS, hT111_3, hT111_7, hT111_41, hT111_42, hT111_146, hT111_147, hT111_148, rfl, hz⟩
 refine WL_gy rfl rfl (Y_move (.int .i64 y112) rfl) <|WL_gy rfl rfl (Y_gtr rfl rfl) <|WL_gy rfl rfl (Y_move (.bool (decide (y112 > 0))) rfl) ?_
 rcases ic hz with ⟨hc136, hz⟩ | ⟨hc136, hz⟩ <;> rw [hc136]
 refine WL_gy rfl rfl (Y_fa fa44_4 hT111_7) ?_
 obtain ⟨v137, ev137, hv137⟩ := (GEntry.p4 (rep_root (k := 6) rfl hb85))
 refine WL_gy rfl rfl (Y_ld1 v137 ts27 rfl (hS.bvB 0 rfl) ev137) <|WL_gy rfl rfl (Y_move (.int .i64 y112) rfl) <|WL_gy rfl rfl (Y_sub rfl rfl) ?_
 obtain ⟨x139, hx138, hz⟩ := bind_ok hz
 obtain ⟨b138, o138, c138, p138, hv138, hi138, hj138, hM138, hr138⟩ := repL_at hv137 hx138
 replace hr138 : rep _ (sl p138 (o138 + Int.toNat (IntKind.wrap .i64 (y112 - 1)) * 1) 1) x139 := hr138
 refine WL_gy rfl rfl (Y_ixL il27 rfl hv138 rfl hi138 hj138) <|WL_gy rfl rfl (Y_ld1 (.int .i64 x139) ts3 rfl (hS.bvM hM138) hr138) <|WL_gy rfl rfl (Y_move (.int .i64 x124) rfl) <|WL_gy rfl rfl (Y_geq rfl rfl) <|WL_d 2 rfl ?_
 refine WL_nil (nm_then ?_)
 exact ⟨M110, (decide (x139 ≥ x124)), hF131, hS, hT111_3, hT111_7, hT111_41, hT111_42, hT111_146, hT111_147, hT111_148, rfl, hz⟩
 refine WL_d 10 rfl ?_
 refine WL_nil (nm_then ?_)
 exact ⟨M110, false, hF131, hS, hT111_3, hT111_7, hT111_41, hT111_42, hT111_146, hT111_147, hT111_148, rfl, hz⟩
 rintro T127 w125 ⟨M126, c128, hx129, hS, hT127_3, hT127_7, hT127_41, hT127_42, hT127_146, hT127_147, hT127_148, hT127_175, hz⟩
 replace hcx1 := Rep.mono hx129.1 hcx1
 replace hb15 := Rep.mono hx129.1 hb15
 replace ha65 := Rep.mono hx129.1 ha65
 replace hb85 := Rep.mono hx129.1 hb85
 replace hv107 := repL.mono hx129.1 hv107
 replace hE := Mm.ext.trans hE hx129
 replace hF20 := Mm.ext.trans hF20 hx129
 replace hF72 := Mm.ext.trans hF72 hx129
 replace hF79 := Mm.ext.trans hF79 hx129
 replace hF115 := Mm.ext.trans hF115 hx129
 replace hF122 := Mm.ext.trans hF122 hx129
 rw [nodeGood_j8] at hz
 refine W_cond hT127_175 (fun hc130 => ?_) (fun hc130 => ?_)
 replace hz := bif_ok_t hz hc130
 refine W_seq <|W_reg <|WL_y (Y_assign (.bool false) rfl) ?_
 refine WL_nil (nm_then ?_)
 cases hz
 exact W_ret (rt_blk (rt_then (rt_then (rt_blk (rt_blk (rt_then (rt_then (rt_blk (rt_then (R_t1 rfl rfl ⟨rfl, (St.dropB (St.dropB (St.dropB hS hb83) hb6) hb3).kept⟩))))))))))
 replace hz := bif_ok_f hz hc130
 refine W_skip (nm_blk ?_)
 refine (nm_then ?_)
 exact ⟨M126, hF122, hS, hT127_3, hT127_7, hT127_41, hT127_42, hT127_146, hT127_147, hT127_148, hz⟩
 rintro T120 w118 ⟨M119, hx121, hS, hT120_3, hT120_7, hT120_41, hT120_42, hT120_146, hT120_147, hT120_148, hz⟩
 replace hcx1 := Rep.mono hx121.1 hcx1
 replace hb15 := Rep.mono hx121.1 hb15
 replace ha65 := Rep.mono hx121.1 ha65
 replace hb85 := Rep.mono hx121.1 hb85
 replace hv107 := repL.mono hx121.1 hv107
 replace hE := Mm.ext.trans hE hx121
 replace hF20 := Mm.ext.trans hF20 hx121
 replace hF72 := Mm.ext.trans hF72 hx121
 replace hF79 := Mm.ext.trans hF79 hx121
 replace hF115 := Mm.ext.trans hF115 hx121
 rw [nodeGood_j7] at hz
 refine W_reg <|WL_y (Y_add hT120_148 rfl) <|WL_y (Y_move (.int .i64 (IntKind.wrap .i64 (y112 + 1))) rfl) ?_
 refine WL_nil (nm_then ?_)
 exact ⟨M119, (IntKind.wrap .i64 (y112 + 1)), hF115, hS, hT120_3, hT120_7, hT120_41, hT120_42, hT120_146, hT120_147, rfl, (by rw [← hrec113]; exact hz)⟩
 replace hz := bif_ok_f hz hc117
 refine W_exit <|ex_then <|ex_then <|ex_hit ?_
 refine (nm_blk ?_)
 refine (nm_then ?_)
 exact ⟨M110, hF79, (St.dropB hS hb83), hT111_3, hT111_41, hT111_42, hz⟩
 rintro T77 w75 ⟨M76, hx78, hS, hT77_3, hT77_41, hT77_42, hz⟩
 replace hcx1 := Rep.mono hx78.1 hcx1
 replace hb15 := Rep.mono hx78.1 hb15
 replace ha65 := Rep.mono hx78.1 ha65
 replace hE := Mm.ext.trans hE hx78
 replace hF20 := Mm.ext.trans hF20 hx78
 replace hF72 := Mm.ext.trans hF72 hx78
 rw [nodeGood_j4] at hz
 refine W_reg <|WL_y (Y_add hT77_42 rfl) <|WL_y (Y_move (.int .i64 (IntKind.wrap .i64 (y69 + 1))) rfl) ?_
 refine WL_nil (nm_then ?_)
 exact ⟨M76, (IntKind.wrap .i64 (y69 + 1)), hF72, hS, hT77_3, hT77_41, rfl, (by rw [← hrec70]; exact hz)⟩
 replace hz := bif_ok_f hz hc74
 refine W_exit <|ex_then <|ex_then <|ex_hit ?_
 refine (nm_then ?_)
 refine W_seq <|W_reg <|WL_y (Y_assign (.bool true) rfl) ?_
 refine WL_nil (nm_then ?_)
 cases hz
 exact W_ret (R_t1 rfl rfl ⟨rfl, (St.dropB (St.dropB hS hb6) hb3).kept⟩)
def nodeAhead_j1 (y14 : Int) (rec15 : (List Int) → Int → Option (List Int)) (l23 : List Int) : Option (List Int) :=
 rec15 l23 (IntKind.wrap .i64 (y14 + 1))
def nodeAhead_j2 (l12 : List Int) (y14 : Int) (rec15 : (List Int) → Int → Option (List Int)) (c37 : Bool) : Option (List Int) :=
 (bif c37 then
 (app l12 ([y14] : List Int)).bind fun l44 =>
 nodeAhead_j1 y14 rec15 l44
 else
 nodeAhead_j1 y14 rec15 l12)
def nodeAhead_l1 (x1 : GNode) (x2 : Int) (x3 : List GOp) (x4 : Int) : Nat → (List Int) → Int → Option (List Int)
 | 0, _, _ => none
 | n + 1, l12, y14 =>
 (bif decide (y14 < 32) then
 (idxV x1.entries y14).bind fun x27 =>
 (some x27).bind fun d33 =>
 (bif y14 != x2 then
 (bif d33.state != 0 then
 (some (conflictZ d33.ops x3 x4)).bind fun r51 =>
 nodeAhead_j2 l12 y14 (nodeAhead_l1 x1 x2 x3 x4 n) r51
 else
 nodeAhead_j2 l12 y14 (nodeAhead_l1 x1 x2 x3 x4 n) false)
 else
 nodeAhead_j2 l12 y14 (nodeAhead_l1 x1 x2 x3 x4 n) false)
 else
 some l12)
def nodeAheadD (fu : Nat) (x1 : GNode) (x2 : Int) (x3 : List GOp) (x4 : Int) : Option (List Int) :=
 nodeAhead_l1 x1 x2 x3 x4 fu ([] : List Int) 0
set_option maxRecDepth 100000 in
set_option maxHeartbeats 4000000 in
theorem nodeAhead_ok {M : Mm} {w : World} {cx1 : List Value} {vx3 : Value} {x1 : GNode} {x2 : Int} {x3 : List GOp} {x4 : Int} {fu : Nat} {r : (List Int)} (hA : Agree M w) (hcx1 : rep M cx1 x1) (hvx3 : repL M vx3 x3) (hz : nodeAheadD fu x1 x2 x3 x4 = some r) :
    Calls Try.prog 52 #[.agg cx1.toArray, .int .i64 x2, vx3, .int .i64 x4] w (Gives M w (fun M' u => repL M' u r)) := by
 refine calls_W Try.func52 rfl 39 rfl rfl (by kernel_rfl) fun T hT => ?_
 have hT_0 : T 0 = .agg cx1.toArray := hT 0
 have hT_1 : T 1 = .int .i64 x2 := hT 1
 have hT_2 : T 2 = vx3 := hT 2
 have hT_3 : T 3 = .int .i64 x4 := hT 3
 clear hT
 have hE := Mm.ext.refl w.heap.size noX M
 have hS : St w noX M [] w := St.start hA
 rw [nodeAheadD] at hz
 refine W_seq <|W_reg ?_
 refine WL_c (O_box (v := .agg cx1.toArray) (cs := cx1) hT_0 rfl hS ?_)
 intro b6 w5 hb6 hS
 replace hS : St w noX M [.box b6 cx1 48] w5 := hS
 refine WL_y (Y_assign ((.slice none 0 0)) rfl) ?_
 refine WL_nil (nm_then ?_)
 refine W_seq <|W_reg <|WL_y (Y_assign ((.slice none 0 0)) rfl) ?_
 refine WL_nil (nm_then ?_)
 refine W_seq <|W_seq <|W_reg <|WL_y (Y_fa fa48_0 rfl) ?_
 have ha7 := (GNode.p0 (rep_root (k := 201) rfl hcx1))
 refine WL_y (Y_ldn ta45 rfl (hS.bvB 0 rfl) (Rep.len ha7)) <|WL_y (Y_move (.int .i64 0) rfl) ?_
 refine WL_nil (nm_then ?_)
 refine W_block ?_
 replace hS := hS.nilRow 3 1
 replace hS : St w noX M [.row (.slice none 0 0) 3 1, .box b6 cx1 48] w5 := hS
 refine W_loop (fun k16 T' w' => ∃ M10 v13 l12 y14, Mm.ext w.heap.size noX M M10 ∧ St w noX M10 [.row v13 3 1, .box b6 cx1 48] w' ∧ repL M10 v13 l12 ∧ T' 1 = .int .i64 x2 ∧ T' 2 = vx3 ∧ T' 3 = .int .i64 x4 ∧ T' 9 = v13 ∧ T' 13 = .agg (sl cx1 (0 + 0) 192).toArray ∧ T' 14 = .int .i64 y14 ∧ nodeAhead_l1 x1 x2 x3 x4 k16 l12 y14 = some r) fu ?_ ?_ ?_
 exact ⟨M, (.slice none 0 0), ([] : List Int), (0 : Int), (Mm.ext.refl _ _ _), hS, (repL_nil _), hT_1, hT_2, hT_3, rfl, rfl, rfl, hz⟩
 rintro T' w' ⟨_, _, _, _, _, _, _, _, _, _, _, _, _, hz⟩
 rw [nodeAhead_l1] at hz
 cases hz
 intro k16
 rintro T11 w9 ⟨M10, v13, l12, y14, hx18, hS, hv13, hT11_1, hT11_2, hT11_3, hT11_9, hT11_13, hT11_14, hz⟩
 replace hcx1 := Rep.mono hx18.1 hcx1
 replace hvx3 := repL.mono hx18.1 hvx3
 replace ha7 := Rep.mono hx18.1 ha7
 replace hE := Mm.ext.trans hE hx18
 have hF17 := hx18
 rw [nodeAhead_l1] at hz
 obtain ⟨rec15, hrec15⟩ : ∃ f, f = nodeAhead_l1 x1 x2 x3 x4 k16 := ⟨_, rfl⟩
 rw [← hrec15] at hz
 refine W_seq <|W_reg <|WL_y (Y_lss hT11_14 rfl) ?_
 refine WL_nil (nm_then ?_)
 refine W_seq ?_
 refine W_cond rfl (fun hc19 => ?_) (fun hc19 => ?_)
 replace hz := bif_ok_t hz hc19
 refine W_skip (nm_then ?_)
 refine W_seqJ (fun T' w' => ∃ M21 v24 l23, Mm.ext w.heap.size noX M10 M21 ∧ St w noX M21 [.row v24 3 1, .box b6 cx1 48] w' ∧ repL M21 v24 l23 ∧ T' 1 = .int .i64 x2 ∧ T' 2 = vx3 ∧ T' 3 = .int .i64 x4 ∧ T' 9 = v24 ∧ T' 13 = .agg (sl cx1 (0 + 0) 192).toArray ∧ T' 14 = .int .i64 y14 ∧ nodeAhead_j1 y14 rec15 l23 = some r) ?_ ?_
 have hF26 := Mm.ext.refl w.heap.size noX M10
 refine W_block <|W_seq <|W_reg <|WL_y (Y_move (.int .i64 y14) hT11_14) ?_
 obtain ⟨x27, hx28, hz⟩ := bind_ok hz
 obtain ⟨hx28a, hx28b, hx28⟩ := repV_at ha7 hx28
 replace hx28 : rep _ (sl (sl cx1 (0 + 0) 192) (Int.toNat y14 * 6) 6) x27 := hx28
 refine WL_y (Y_ixVn iv45 hT11_13 hT11_14 hx28a hx28b) ?_
 refine WL_c (O_alloc tz44 hS ?_)
 intro b30 w29 hb30 hS
 replace hS : St w noX M10 [.box b30 (Zr.zc GEntry) 44, .row v13 3 1, .box b6 cx1 48] w29 := hS
 have zb30 : rep M10 (Zr.zc GEntry) (Zr.zd : GEntry) := Zr.zr
 refine WL_y (Y_assign (.int .i64 y14) rfl) ?_
 have hw32 : ((sl (sl cx1 (0 + 0) 192) (Int.toNat y14 * 6) 6) : List Value).length = 6 := Rep.len hx28
 have hl32 : ((Zr.zc GEntry)).length = 6 := Rep.len zb30
 obtain ⟨d33, hd32, hz⟩ := bind_ok hz
 have hb32 : rep M10 (pt (Zr.zc GEntry) (0) (sl (sl cx1 (0 + 0) 192) (Int.toNat y14 * 6) 6)) d33 := rep_eq (rep_whole (k := 6) (by rw [pt_length (by omega)]; exact hl32) (rep_leaf rfl hx28 (by omega))) hd32
 generalize hg32 : (pt (Zr.zc GEntry) (0) (sl (sl cx1 (0 + 0) 192) (Int.toNat y14 * 6) 6)) = cs32 at hb32
 refine WL_c (O_st (j := 0) (v := .agg (sl (sl cx1 (0 + 0) 192) (Int.toNat y14 * 6) 6).toArray) (ws := (sl (sl cx1 (0 + 0) 192) (Int.toNat y14 * 6) 6)) hS rfl (by kernel_rfl) rfl rfl rfl hw32 (Rep.one hx28) (by omega) ?_)
 rw [hg32]
 clear hg32
 intro w31 hS
 replace hS : St w noX M10 [.box b30 cs32 44, .row v13 3 1, .box b6 cx1 48] w31 := hS
 refine WL_nil (nm_then ?_)
 refine W_seqJ (fun T' w' => ∃ M35 c37, Mm.ext w.heap.size noX M10 M35 ∧ St w noX M35 [.box b30 cs32 44, .row v13 3 1, .box b6 cx1 48] w' ∧ T' 1 = .int .i64 x2 ∧ T' 2 = vx3 ∧ T' 3 = .int .i64 x4 ∧ T' 9 = v13 ∧ T' 10 = .int .i64 y14 ∧ T' 13 = .agg (sl cx1 (0 + 0) 192).toArray ∧ T' 14 = .int .i64 y14 ∧ T' 32 = .bool c37 ∧ nodeAhead_j2 l12 y14 rec15 c37 = some r) ?_ ?_
 have hF45 := Mm.ext.refl w.heap.size noX M10
 refine W_reg <|WL_y (Y_move (.int .i64 y14) rfl) <|WL_y (Y_move (.int .i64 x2) hT11_1) <|WL_y (Y_neq rfl rfl) <|WL_y (Y_move (.bool (y14 != x2)) rfl) ?_
 rcases ic hz with ⟨hc46, hz⟩ | ⟨hc46, hz⟩ <;> rw [hc46]
 refine WL_gy rfl rfl (Y_fa fa44_0 rfl) <|WL_gy rfl rfl (Y_ld1 (.int .i64 d33.state) ts3 rfl (hS.bvB 0 rfl) (GEntry.p0 (rep_root (k := 6) rfl hb32))) <|WL_gy rfl rfl (Y_neq rfl rfl) <|WL_d 2 rfl ?_
 rcases ic hz with ⟨hc47, hz⟩ | ⟨hc47, hz⟩ <;> rw [hc47]
 refine WL_gy rfl rfl (Y_fa fa44_1 rfl) ?_
 obtain ⟨v48, ev48, hv48⟩ := (GEntry.p1 (rep_root (k := 6) rfl hb32))
 refine WL_gy rfl rfl (Y_ld1 v48 ts22 rfl (hS.bvB 0 rfl) ev48) <|WL_gy rfl rfl (Y_move (vx3) hT11_2) <|WL_gy rfl rfl (Y_move (.int .i64 x4) hT11_3) ?_
 obtain ⟨r51, hr50, hz⟩ := bind_ok hz
 replace hr50 := Option.some.inj hr50
 refine WL_g rfl rfl (O_val (vs := [v48, vx3, .int .i64 x4]) (v := .bool r51) cb72 (args3 rfl rfl rfl) hS (hr50 ▸ (c_conflict hS.agree hv48 hvx3)) ?_)
 intro w49 hS
 refine WL_y (Y_pick_t (.bool r51) rfl rfl) ?_
 refine WL_nil (nm_then ?_)
 exact ⟨M10, r51, hF45, hS, hT11_1, hT11_2, hT11_3, hT11_9, rfl, hT11_13, hT11_14, rfl, hz⟩
 refine WL_d 6 rfl ?_
 refine WL_nil (nm_then ?_)
 exact ⟨M10, false, hF45, hS, hT11_1, hT11_2, hT11_3, hT11_9, rfl, hT11_13, hT11_14, rfl, hz⟩
 refine WL_d 11 rfl ?_
 refine WL_nil (nm_then ?_)
 exact ⟨M10, false, hF45, hS, hT11_1, hT11_2, hT11_3, hT11_9, rfl, hT11_13, hT11_14, rfl, hz⟩
 rintro T36 w34 ⟨M35, c37, hx38, hS, hT36_1, hT36_2, hT36_3, hT36_9, hT36_10, hT36_13, hT36_14, hT36_32, hz⟩
 replace hcx1 := Rep.mono hx38.1 hcx1
 replace hvx3 := repL.mono hx38.1 hvx3
 replace ha7 := Rep.mono hx38.1 ha7
 replace hv13 := repL.mono hx38.1 hv13
 replace hb32 := Rep.mono hx38.1 hb32
 replace hE := Mm.ext.trans hE hx38
 replace hF17 := Mm.ext.trans hF17 hx38
 replace hF26 := Mm.ext.trans hF26 hx38
 rw [nodeAhead_j2] at hz
 refine W_cond hT36_32 (fun hc39 => ?_) (fun hc39 => ?_)
 replace hz := bif_ok_t hz hc39
 refine W_reg <|WL_y (Y_move (v13) hT36_9) <|WL_y (Y_move (.int .i64 y14) hT36_10) ?_
 refine WL_c (O_bslice (α := Int) (l := ([y14] : List Int)) [.int .i64 y14] tl27 (bpc rfl bp0) rfl rfl (by decide) (by decide) (by decide) hS (brc (show rep M35 [Value.int .i64 y14] (y14 : Int) from rfl) br0) ?_)
 intro v41 M41 w40 hx41 hv41 hS
 replace hcx1 := Rep.mono hx41.1 hcx1
 replace hvx3 := repL.mono hx41.1 hvx3
 replace ha7 := Rep.mono hx41.1 ha7
 replace hv13 := repL.mono hx41.1 hv13
 replace hb32 := Rep.mono hx41.1 hb32
 replace hE := Mm.ext.trans hE hx41
 replace hF17 := Mm.ext.trans hF17 hx41
 replace hF26 := Mm.ext.trans hF26 hx41
 obtain ⟨l44, hr43, hz⟩ := bind_ok hz
 obtain ⟨hy43, hs43⟩ := app_some hr43
 refine WL_c (O_app (α := Int) (j := 1) tp27 hS rfl rfl rfl hv13 hv41 hy43 ?_)
 intro v43 M43 w42 hx43 hv43 hS
 rw [← hs43] at hv43
 clear hr43 hs43
 replace hcx1 := Rep.mono hx43.1 hcx1
 replace hvx3 := repL.mono hx43.1 hvx3
 replace ha7 := Rep.mono hx43.1 ha7
 replace hv13 := repL.mono hx43.1 hv13
 replace hb32 := Rep.mono hx43.1 hb32
 replace hv41 := repL.mono hx43.1 hv41
 replace hE := Mm.ext.trans hE hx43
 replace hF17 := Mm.ext.trans hF17 hx43
 replace hF26 := Mm.ext.trans hF26 hx43
 replace hS : St w noX M43 [.box b30 cs32 44, .row v43 3 1, .box b6 cx1 48] w42 := hS
 refine WL_y (Y_assign (v43) rfl) ?_
 refine WL_nil (nm_blk ?_)
 refine (nm_then ?_)
 exact ⟨M43, v43, l44, hF26, (St.dropB hS hb30), hv43, hT36_1, hT36_2, hT36_3, rfl, hT36_13, hT36_14, hz⟩
 replace hz := bif_ok_f hz hc39
 refine W_skip (nm_blk ?_)
 refine (nm_then ?_)
 exact ⟨M35, v13, l12, hF26, (St.dropB hS hb30), hv13, hT36_1, hT36_2, hT36_3, hT36_9, hT36_13, hT36_14, hz⟩
 rintro T22 w20 ⟨M21, v24, l23, hx25, hS, hv24, hT22_1, hT22_2, hT22_3, hT22_9, hT22_13, hT22_14, hz⟩
 replace hcx1 := Rep.mono hx25.1 hcx1
 replace hvx3 := repL.mono hx25.1 hvx3
 replace ha7 := Rep.mono hx25.1 ha7
 replace hE := Mm.ext.trans hE hx25
 replace hF17 := Mm.ext.trans hF17 hx25
 rw [nodeAhead_j1] at hz
 refine W_reg <|WL_y (Y_add hT22_14 rfl) <|WL_y (Y_move (.int .i64 (IntKind.wrap .i64 (y14 + 1))) rfl) ?_
 refine WL_nil (nm_then ?_)
 exact ⟨M21, v24, l23, (IntKind.wrap .i64 (y14 + 1)), hF17, hS, hv24, hT22_1, hT22_2, hT22_3, hT22_9, hT22_13, rfl, (by rw [← hrec15]; exact hz)⟩
 replace hz := bif_ok_f hz hc19
 refine W_exit <|ex_then <|ex_then <|ex_hit ?_
 refine (nm_then ?_)
 refine W_seq <|W_reg <|WL_y (Y_move (v13) hT11_9) <|WL_y (Y_assign (v13) rfl) ?_
 refine WL_nil (nm_then ?_)
 cases hz
 exact W_ret (R_t1 rfl rfl (Gives.mk (St.dropB (St.drop hS) hb6) hE hv13))
def nodeGraph_l1 (x1 : GNode) : Nat → GGraph → Int → Option GGraph
 | 0, _, _ => none
 | n + 1, d13, y14 =>
 (bif decide (y14 < 32) then
 (idxV x1.entries y14).bind fun x20 =>
 (some x20).bind fun d26 =>
 (inR y14 32).bind fun _ =>
 (idxV d13.known y14).bind fun x35 =>
 (setV d13.known y14 (decide (d26.state ≥ 2))).bind fun a38 =>
 (some ({ d13 with known := a38 } : GGraph)).bind fun d40 =>
 (inR y14 32).bind fun _ =>
 (idxV d40.deps y14).bind fun x46 =>
 (setV d40.deps y14 d26.deps).bind fun a49 =>
 (some ({ d40 with deps := a49 } : GGraph)).bind fun d51 =>
 (nodeGraph_l1 x1 n) d51 (IntKind.wrap .i64 (y14 + 1))
 else
 (some d13).bind fun d56 =>
 some d56)
def nodeGraphD (fu : Nat) (x1 : GNode) : Option GGraph :=
 nodeGraph_l1 x1 fu (Zr.zd : GGraph) 0
set_option maxRecDepth 100000 in
set_option maxHeartbeats 4000000 in
theorem nodeGraph_ok {M : Mm} {w : World} {cx1 : List Value} {x1 : GNode} {fu : Nat} {r : GGraph} (hA : Agree M w) (hcx1 : rep M cx1 x1) (hz : nodeGraphD fu x1 = some r) :
    Calls Try.prog 31 #[.agg cx1.toArray] w (Gives M w (fun M' u => ∃ cs, u = .agg cs.toArray ∧ rep M' cs r)) := by
 refine calls_W Try.func31 rfl 25 rfl rfl (by kernel_rfl) fun T hT => ?_
 have hT_0 : T 0 = .agg cx1.toArray := hT 0
 clear hT
 have hE := Mm.ext.refl w.heap.size noX M
 have hS : St w noX M [] w := St.start hA
 rw [nodeGraphD] at hz
 refine W_seq <|W_reg ?_
 refine WL_c (O_box (v := .agg cx1.toArray) (cs := cx1) hT_0 rfl hS ?_)
 intro b3 w2 hb3 hS
 replace hS : St w noX M [.box b3 cx1 48] w2 := hS
 refine WL_c (O_alloc tz64 hS ?_)
 intro b5 w4 hb5 hS
 replace hS : St w noX M [.box b5 (Zr.zc GGraph) 64, .box b3 cx1 48] w4 := hS
 have zb5 : rep M (Zr.zc GGraph) (Zr.zd : GGraph) := Zr.zr
 refine WL_nil (nm_then ?_)
 refine W_seq <|W_reg ?_
 refine WL_c (O_alloc tz64 hS ?_)
 intro b7 w6 hb7 hS
 replace hS : St w noX M [.box b7 (Zr.zc GGraph) 64, .box b5 (Zr.zc GGraph) 64, .box b3 cx1 48] w6 := hS
 have zb7 : rep M (Zr.zc GGraph) (Zr.zd : GGraph) := Zr.zr
 refine WL_nil (nm_then ?_)
 refine W_seq <|W_seq <|W_reg <|WL_y (Y_fa fa48_0 rfl) ?_
 have ha8 := (GNode.p0 (rep_root (k := 201) rfl hcx1))
 refine WL_y (Y_ldn ta45 rfl (hS.bvB 2 rfl) (Rep.len ha8)) <|WL_y (Y_move (.int .i64 0) rfl) ?_
 refine WL_nil (nm_then ?_)
 refine W_block ?_
 refine W_loop (fun k16 T' w' => ∃ M10 cs12 d13 y14, Mm.ext w.heap.size noX M M10 ∧ St w noX M10 [.box b7 cs12 64, .box b5 (Zr.zc GGraph) 64, .box b3 cx1 48] w' ∧ rep M10 cs12 d13 ∧ T' 2 = .pointer (some ⟨b5, 0, none⟩) ∧ T' 3 = .pointer (some ⟨b7, 0, none⟩) ∧ T' 7 = .agg (sl cx1 (0 + 0) 192).toArray ∧ T' 8 = .int .i64 y14 ∧ nodeGraph_l1 x1 k16 d13 y14 = some r) fu ?_ ?_ ?_
 exact ⟨M, (Zr.zc GGraph), (Zr.zd : GGraph), (0 : Int), (Mm.ext.refl _ _ _), hS, zb7, rfl, rfl, rfl, rfl, hz⟩
 rintro T' w' ⟨_, _, _, _, _, _, _, _, _, _, _, hz⟩
 rw [nodeGraph_l1] at hz
 cases hz
 intro k16
 rintro T11 w9 ⟨M10, cs12, d13, y14, hx18, hS, hb12, hT11_2, hT11_3, hT11_7, hT11_8, hz⟩
 replace hcx1 := Rep.mono hx18.1 hcx1
 replace zb5 := Rep.mono hx18.1 zb5
 replace ha8 := Rep.mono hx18.1 ha8
 replace hE := Mm.ext.trans hE hx18
 have hF17 := hx18
 rw [nodeGraph_l1] at hz
 obtain ⟨rec15, hrec15⟩ : ∃ f, f = nodeGraph_l1 x1 k16 := ⟨_, rfl⟩
 rw [← hrec15] at hz
 refine W_seq <|W_reg <|WL_y (Y_lss hT11_8 rfl) ?_
 refine WL_nil (nm_then ?_)
 refine W_seq ?_
 refine W_cond rfl (fun hc19 => ?_) (fun hc19 => ?_)
 replace hz := bif_ok_t hz hc19
 refine W_skip (nm_then ?_)
 refine W_seq <|W_block <|W_seq <|W_reg <|WL_y (Y_move (.int .i64 y14) hT11_8) ?_
 obtain ⟨x20, hx21, hz⟩ := bind_ok hz
 obtain ⟨hx21a, hx21b, hx21⟩ := repV_at ha8 hx21
 replace hx21 : rep _ (sl (sl cx1 (0 + 0) 192) (Int.toNat y14 * 6) 6) x20 := hx21
 refine WL_y (Y_ixVn iv45 hT11_7 hT11_8 hx21a hx21b) ?_
 refine WL_c (O_alloc tz44 hS ?_)
 intro b23 w22 hb23 hS
 replace hS : St w noX M10 [.box b23 (Zr.zc GEntry) 44, .box b7 cs12 64, .box b5 (Zr.zc GGraph) 64, .box b3 cx1 48] w22 := hS
 have zb23 : rep M10 (Zr.zc GEntry) (Zr.zd : GEntry) := Zr.zr
 refine WL_y (Y_assign (.int .i64 y14) rfl) ?_
 have hw25 : ((sl (sl cx1 (0 + 0) 192) (Int.toNat y14 * 6) 6) : List Value).length = 6 := Rep.len hx21
 have hl25 : ((Zr.zc GEntry)).length = 6 := Rep.len zb23
 obtain ⟨d26, hd25, hz⟩ := bind_ok hz
 have hb25 : rep M10 (pt (Zr.zc GEntry) (0) (sl (sl cx1 (0 + 0) 192) (Int.toNat y14 * 6) 6)) d26 := rep_eq (rep_whole (k := 6) (by rw [pt_length (by omega)]; exact hl25) (rep_leaf rfl hx21 (by omega))) hd25
 generalize hg25 : (pt (Zr.zc GEntry) (0) (sl (sl cx1 (0 + 0) 192) (Int.toNat y14 * 6) 6)) = cs25 at hb25
 refine WL_c (O_st (j := 0) (v := .agg (sl (sl cx1 (0 + 0) 192) (Int.toNat y14 * 6) 6).toArray) (ws := (sl (sl cx1 (0 + 0) 192) (Int.toNat y14 * 6) 6)) hS rfl (by kernel_rfl) rfl rfl rfl hw25 (Rep.one hx21) (by omega) ?_)
 rw [hg25]
 clear hg25
 intro w24 hS
 replace hS : St w noX M10 [.box b23 cs25 44, .box b7 cs12 64, .box b5 (Zr.zc GGraph) 64, .box b3 cx1 48] w24 := hS
 refine WL_nil (nm_then ?_)
 refine W_drawB (Rd M10 [.box b23 cs25 44]) (inL []) mixed hS fun w27 hS => ?_
 have hG28 := Mm.ext.refl w.heap.size noX M10
 have hR29 : Rd M10 [.box b23 cs25 44] w27 := Rd.of hS hG28 (by simp)
 refine WB_y (i := 0) rfl (by kernel_rfl) rfl (Y_move (.int .i64 y14) rfl) (fun _ => hR29) <|WB_y (i := 1) rfl (by kernel_rfl) rfl (Y_move (.int .i64 y14) rfl) (fun _ => hR29) <|WB_y (i := 2) rfl (by kernel_rfl) rfl (Y_fa fa44_0 rfl) (fun _ => hR29) <|WB_ld (i := 3) rfl (by kernel_rfl) rfl (inL_lt rfl) (by kernel_rfl) (by kernel_rfl) (Y_ld1 (.int .i64 d26.state) ts3 rfl (bvR 0 rfl) (GEntry.p0 (rep_root (k := 6) rfl hb25))) hR29 <|WB_y (i := 4) rfl (by kernel_rfl) rfl (Y_geq rfl rfl) (fun _ => hR29) <|WB_y (i := 5) rfl (by kernel_rfl) rfl (Y_fa fa44_3 rfl) (fun _ => hR29) ?_
 obtain ⟨v30, ev30, hv30⟩ := (GEntry.p3 (rep_root (k := 6) rfl hb25))
 refine WB_ld (i := 6) rfl (by kernel_rfl) rfl (inL_lt rfl) (by kernel_rfl) (by kernel_rfl) (Y_ld1 v30 ts27 rfl (bvR 0 rfl) ev30) hR29 <|WB_y (i := 7) rfl (by kernel_rfl) rfl (Y_fa fa64_0 hT11_3) (fun _ => hR29) ?_
 obtain ⟨u31, hx32, hz⟩ := bind_ok hz
 obtain ⟨hx32a, hx32b⟩ := inR_some hx32
 refine WB_y (i := 8) rfl (by kernel_rfl) rfl (Y_ixA ia61 rfl rfl hx32a hx32b) (fun _ => hR29) <|WB_y (i := 10) rfl (by kernel_rfl) rfl (Y_fa fa64_1 hT11_3) (fun _ => hR29) ?_
 obtain ⟨x35, hx36, hz⟩ := bind_ok hz
 have hw34 : ([.bool (decide (d26.state ≥ 2))] : List Value).length = 1 := Rep.len (show rep M10 [Value.bool (decide (d26.state ≥ 2))] (decide (d26.state ≥ 2) : Bool) from rfl)
 have hl34 : (cs12).length = 64 := Rep.len hb12
 have hq37 := (idxV_some hx36)
 obtain ⟨a38, hx39, hz⟩ := bind_ok hz
 obtain ⟨d40, hd34, hz⟩ := bind_ok hz
 have hb34 : rep M10 (pt cs12 (0 + 0 + Int.toNat y14 * 1) [.bool (decide (d26.state ≥ 2))]) d40 := rep_eq (rep_whole (k := 64) (by rw [pt_length (by omega)]; exact hl34) (GGraph.s0 (rep_root (k := 64) rfl hb12) (vs (k := 1) rfl rfl (GGraph.p0 (rep_root (k := 64) rfl hb12)) (rep_leaf rfl (show rep M10 [Value.bool (decide (d26.state ≥ 2))] (decide (d26.state ≥ 2) : Bool) from rfl) (by omega)) hx39 (by omega) (by omega) (by omega)) (by omega) (by omega) (by omega))) hd34
 generalize hg34 : (pt cs12 (0 + 0 + Int.toNat y14 * 1) [.bool (decide (d26.state ≥ 2))]) = cs34 at hb34
 refine WB_one (i := 9) (by kernel_rfl) rfl (O_st (j := 1) (v := .bool (decide (d26.state ≥ 2))) (ws := [.bool (decide (d26.state ≥ 2))]) hS rfl (by kernel_rfl) rfl rfl rfl hw34 (Rep.one (show rep M10 [Value.bool (decide (d26.state ≥ 2))] (decide (d26.state ≥ 2) : Bool) from rfl)) (by omega) ?_)
 rw [hg34]
 clear hg34
 intro w33 hS
 replace hS : St w noX M10 [.box b23 cs25 44, .box b7 cs34 64, .box b5 (Zr.zc GGraph) 64, .box b3 cx1 48] w33 := hS
 have hR41 : Rd M10 [.box b23 cs25 44] w33 := Rd.of hS hG28 (by simp)
 refine ⟨fun _ => hR41, ?_⟩
 obtain ⟨u42, hx43, hz⟩ := bind_ok hz
 obtain ⟨hx43a, hx43b⟩ := inR_some hx43
 refine WB_y (i := 11) rfl (by kernel_rfl) rfl (Y_ixA ia62 rfl rfl hx43a hx43b) (fun _ => hR41) ?_
 obtain ⟨x46, hx47, hz⟩ := bind_ok hz
 have hw45 : ([v30] : List Value).length = 1 := Rep.len (repL_rep hv30)
 have hl45 : (cs34).length = 64 := Rep.len hb34
 have hq48 := (idxV_some hx47)
 obtain ⟨a49, hx50, hz⟩ := bind_ok hz
 obtain ⟨d51, hd45, hz⟩ := bind_ok hz
 have hb45 : rep M10 (pt cs34 (0 + 32 + Int.toNat y14 * 1) [v30]) d51 := rep_eq (rep_whole (k := 64) (by rw [pt_length (by omega)]; exact hl45) (GGraph.s1 (rep_root (k := 64) rfl hb34) (vs (k := 1) rfl rfl (GGraph.p1 (rep_root (k := 64) rfl hb34)) (rep_leaf rfl (repL_rep hv30) (by omega)) hx50 (by omega) (by omega) (by omega)) (by omega) (by omega) (by omega))) hd45
 generalize hg45 : (pt cs34 (0 + 32 + Int.toNat y14 * 1) [v30]) = cs45 at hb45
 refine WB_one (i := 12) (by kernel_rfl) rfl (O_st (j := 1) (v := v30) (ws := [v30]) hS rfl (by kernel_rfl) rfl rfl (repL_cells hv30) hw45 (Rep.one (repL_rep hv30)) (by omega) ?_)
 rw [hg45]
 clear hg45
 intro w44 hS
 replace hS : St w noX M10 [.box b23 cs25 44, .box b7 cs45 64, .box b5 (Zr.zc GGraph) 64, .box b3 cx1 48] w44 := hS
 have hR52 : Rd M10 [.box b23 cs25 44] w44 := Rd.of hS hG28 (by simp)
 refine ⟨fun _ => hR52, ?_⟩
 refine WB_done (by kernel_rfl) (nm_blk ?_)
 refine (nm_then ?_)
 refine W_reg <|WL_y (Y_add hT11_8 rfl) <|WL_y (Y_move (.int .i64 (IntKind.wrap .i64 (y14 + 1))) rfl) ?_
 refine WL_nil (nm_then ?_)
 exact ⟨M10, cs45, d51, (IntKind.wrap .i64 (y14 + 1)), hF17, (St.dropB hS hb23), hb45, hT11_2, hT11_3, hT11_7, rfl, (by rw [← hrec15]; exact hz)⟩
 replace hz := bif_ok_f hz hc19
 refine W_exit <|ex_then <|ex_then <|ex_hit ?_
 refine (nm_then ?_)
 refine W_seq <|W_reg ?_
 have ha53 := (rep_root (k := 64) rfl hb12)
 refine WL_y (Y_ldn ta64 hT11_3 (hS.bvB 0 rfl) (Rep.len ha53)) ?_
 have hw55 : ((sl cs12 (0) 64) : List Value).length = 64 := Rep.len ha53
 have hl55 : ((Zr.zc GGraph)).length = 64 := Rep.len zb5
 obtain ⟨d56, hd55, hz⟩ := bind_ok hz
 have hb55 : rep M10 (pt (Zr.zc GGraph) (0) (sl cs12 (0) 64)) d56 := rep_eq (rep_whole (k := 64) (by rw [pt_length (by omega)]; exact hl55) (rep_leaf rfl ha53 (by omega))) hd55
 generalize hg55 : (pt (Zr.zc GGraph) (0) (sl cs12 (0) 64)) = cs55 at hb55
 refine WL_c (O_st (j := 1) (v := .agg (sl cs12 (0) 64).toArray) (ws := (sl cs12 (0) 64)) hS rfl (by kernel_rfl) hT11_2 rfl rfl hw55 (Rep.one ha53) (by omega) ?_)
 rw [hg55]
 clear hg55
 intro w54 hS
 replace hS : St w noX M10 [.box b7 cs12 64, .box b5 cs55 64, .box b3 cx1 48] w54 := hS
 refine WL_nil (nm_then ?_)
 cases hz
 exact W_ret (R_c (j := 1) rfl hT11_2 (by rw [Rep.len hb55]; exact ta64) hS rfl (Gives.mk (St.dropB (St.dropB (St.dropB hS hb7) hb5) hb3) hE ⟨_, rfl, hb55⟩))
def nodeOne_j1 (y58 : Int) (rec59 : GNode → Int → Option GNode) (d68 : GNode) : Option GNode :=
 rec59 d68 (IntKind.wrap .i64 (y58 + 1))
def nodeOne_j2 (y58 : Int) (rec59 : GNode → Int → Option GNode) (d118 : GNode) : Option GNode :=
 nodeOne_j1 y58 rec59 d118
def nodeOne_l1 (x3 : Int) (x4 : Int) (x43 : GEntry) : Nat → GNode → Int → Option GNode
 | 0, _, _ => none
 | n + 1, d51, y58 =>
 (bif decide (y58 < (x43.ops.length : Int)) then
 (idx x43.ops y58).bind fun x78 =>
 (some x78).bind fun d84 =>
 (some (shardZ d84.key)).bind fun r87 =>
 (bif r87 == x4 then
 (inR d84.key 8).bind fun _ =>
 (idxV d51.values d84.key).bind fun x94 =>
 (some (doZ x94 d84)).bind fun r99 =>
 (inR d84.key 8).bind fun _ =>
 (idxV d51.values d84.key).bind fun x105 =>
 (setV d51.values d84.key r99).bind fun a108 =>
 (some ({ d51 with values := a108 } : GNode)).bind fun d110 =>
 (idxV d110.entries x3).bind fun x129 =>
 (idxV d110.entries x3).bind fun x132 =>
 (inR d84.key 8).bind fun _ =>
 (idxV d110.values d84.key).bind fun x137 =>
 (app x129.at_ ([y58] : List Int)).bind fun l143 =>
 (app x132.values ([x137] : List Int)).bind fun l148 =>
 (idxV d110.entries x3).bind fun x151 =>
 (setV d110.entries x3 ({ x151 with at_ := l143 })).bind fun a154 =>
 (some ({ d110 with entries := a154 } : GNode)).bind fun d156 =>
 (idxV d156.entries x3).bind fun x162 =>
 (setV d156.entries x3 ({ x162 with values := l148 })).bind fun a165 =>
 (some ({ d156 with entries := a165 } : GNode)).bind fun d167 =>
 nodeOne_j2 y58 (nodeOne_l1 x3 x4 x43 n) d167
 else
 nodeOne_j1 y58 (nodeOne_l1 x3 x4 x43 n) d51)
 else
 (app d51.order ([x3] : List Int)).bind fun l187 =>
 (some ({ d51 with order := l187 } : GNode)).bind fun d190 =>
 (some d190).bind fun d198 =>
 some d198)
def nodeOneD (fu : Nat) (x1 : GNode) (x3 : Int) (x4 : Int) : Option GNode :=
 (inR x3 32).bind fun _ =>
 (idxV x1.entries x3).bind fun x13 =>
 (setV x1.entries x3 ({ x13 with state := 3 })).bind fun a16 =>
 (some ({ x1 with entries := a16 } : GNode)).bind fun d18 =>
 (idxV d18.entries x3).bind fun x23 =>
 (setV d18.entries x3 ({ x23 with at_ := [] })).bind fun a26 =>
 (some ({ d18 with entries := a26 } : GNode)).bind fun d28 =>
 (idxV d28.entries x3).bind fun x34 =>
 (setV d28.entries x3 ({ x34 with values := [] })).bind fun a37 =>
 (some ({ d28 with entries := a37 } : GNode)).bind fun d39 =>
 (idxV d39.entries x3).bind fun x43 =>
 nodeOne_l1 x3 x4 x43 fu d39 0
set_option maxRecDepth 100000 in
set_option maxHeartbeats 4000000 in
theorem nodeOne_ok {M : Mm} {w : World} {cx1 : List Value} {ux1_1 : Value} {x1 : GNode} {x3 : Int} {x4 : Int} {fu : Nat} {r : GNode} (hS : St w (lentX [.row ux1_1 3 1]) M [.row ux1_1 3 1] w) (hcx1 : rep M cx1 x1) (hpx1_1 : sl cx1 192 1 = [ux1_1]) (hz : nodeOneD fu x1 x3 x4 = some r) :
    Calls Try.prog 74 #[.agg cx1.toArray, .int .i64 x3, .int .i64 x4] w (GivesL M w [.row ux1_1 3 1] (fun M' u L' => ∃ c0 u0, u = .agg c0.toArray ∧ L' = [.row u0 3 1] ∧ rep M' c0 r ∧ sl c0 192 1 = [u0])) := by
 refine calls_W Try.func74 rfl 80 rfl rfl (by kernel_rfl) fun T hT => ?_
 have hT_0 : T 0 = .agg cx1.toArray := hT 0
 have hT_1 : T 1 = .int .i64 x3 := hT 1
 have hT_2 : T 2 = .int .i64 x4 := hT 2
 clear hT
 have hE := Mm.ext.refl w.heap.size (lentX [.row ux1_1 3 1]) M
 rw [nodeOneD] at hz
 refine W_seq <|W_reg ?_
 refine WL_c (O_box (v := .agg cx1.toArray) (cs := cx1) hT_0 rfl hS ?_)
 intro b6 w5 hb6 hS
 replace hS : St w (lentX [.row ux1_1 3 1]) M [.box b6 cx1 48, .row ux1_1 3 1] w5 := hS
 refine WL_c (O_alloc tz48 hS ?_)
 intro b8 w7 hb8 hS
 replace hS : St w (lentX [.row ux1_1 3 1]) M [.box b8 (Zr.zc GNode) 48, .box b6 cx1 48, .row ux1_1 3 1] w7 := hS
 have zb8 : rep M (Zr.zc GNode) (Zr.zd : GNode) := Zr.zr
 refine WL_nil (nm_then ?_)
 refine W_seq <|W_reg <|WL_y (Y_move (.int .i64 x3) hT_1) <|WL_y (Y_fa fa48_0 rfl) ?_
 obtain ⟨u9, hx10, hz⟩ := bind_ok hz
 obtain ⟨hx10a, hx10b⟩ := inR_some hx10
 refine WL_y (Y_ixA ia45 rfl rfl hx10a hx10b) <|WL_y (Y_assign (.pointer (some ⟨b6, 0 + 0 + Int.toNat x3 * 6, none⟩)) rfl) ?_
 refine WL_nil (nm_then ?_)
 refine W_seq <|W_reg <|WL_y (Y_move (.pointer (some ⟨b6, 0 + 0 + Int.toNat x3 * 6, none⟩)) rfl) <|WL_y (Y_nil rfl) <|WL_y (Y_fa fa44_0 rfl) ?_
 obtain ⟨x13, hx14, hz⟩ := bind_ok hz
 have hw12 : ([.int .i64 3] : List Value).length = 1 := Rep.len (show rep M [Value.int .i64 3] (3 : Int) from rfl)
 have hl12 : (cx1).length = 201 := Rep.len hcx1
 have hq15 := (idxV_some hx14)
 obtain ⟨a16, hx17, hz⟩ := bind_ok hz
 obtain ⟨d18, hd12, hz⟩ := bind_ok hz
 have hb12 : rep M (pt cx1 (0 + 0 + Int.toNat x3 * 6 + 0) [.int .i64 3]) d18 := rep_eq (rep_whole (k := 201) (by rw [pt_length (by omega)]; exact hl12) (GNode.s0 (rep_root (k := 201) rfl hcx1) (vs (k := 6) rfl rfl (GNode.p0 (rep_root (k := 201) rfl hcx1)) (GEntry.s0 (vp (k := 6) rfl rfl (GNode.p0 (rep_root (k := 201) rfl hcx1)) hx14) (rep_leaf rfl (show rep M [Value.int .i64 3] (3 : Int) from rfl) (by omega)) (by omega) (by omega) (by omega)) hx17 (by omega) (by omega) (by omega)) (by omega) (by omega) (by omega))) hd12
 have hp19 : sl (pt cx1 (0 + 0 + Int.toNat x3 * 6 + 0) [.int .i64 3]) (192) 1 = [ux1_1] := (sl_pt_apart (by omega) (by omega)).trans hpx1_1
 generalize hg12 : (pt cx1 (0 + 0 + Int.toNat x3 * 6 + 0) [.int .i64 3]) = cs12 at hb12 hp19
 refine WL_c (O_st (j := 1) (v := .int .i64 3) (ws := [.int .i64 3]) hS rfl (by kernel_rfl) rfl rfl rfl hw12 (Rep.one (show rep M [Value.int .i64 3] (3 : Int) from rfl)) (by omega) ?_)
 rw [hg12]
 clear hg12
 intro w11 hS
 replace hS : St w (lentX [.row ux1_1 3 1]) M [.box b8 (Zr.zc GNode) 48, .box b6 cs12 48, .row ux1_1 3 1] w11 := hS
 refine WL_nil (nm_then ?_)
 refine W_seq <|W_reg <|WL_d 2 rfl <|WL_y (Y_nil rfl) <|WL_y (Y_fa fa44_4 rfl) ?_
 replace hS := hS.nilRow 3 1
 replace hS : St w (lentX [.row ux1_1 3 1]) M [.row (.slice none 0 0) 3 1, .box b8 (Zr.zc GNode) 48, .box b6 cs12 48, .row ux1_1 3 1] w11 := hS
 obtain ⟨x23, hx24, hz⟩ := bind_ok hz
 have hw22 : ([.slice none 0 0] : List Value).length = 1 := Rep.len (show rep M [Value.slice none 0 0] ([] : List Int) from repL_rep (repL_nil _))
 have hl22 : (cs12).length = 201 := Rep.len hb12
 have hq25 := (idxV_some hx24)
 obtain ⟨a26, hx27, hz⟩ := bind_ok hz
 obtain ⟨d28, hd22, hz⟩ := bind_ok hz
 have hb22 : rep M (pt cs12 (0 + 0 + Int.toNat x3 * 6 + 4) [.slice none 0 0]) d28 := rep_eq (rep_whole (k := 201) (by rw [pt_length (by omega)]; exact hl22) (GNode.s0 (rep_root (k := 201) rfl hb12) (vs (k := 6) rfl rfl (GNode.p0 (rep_root (k := 201) rfl hb12)) (GEntry.s4 (vp (k := 6) rfl rfl (GNode.p0 (rep_root (k := 201) rfl hb12)) hx24) (rep_leaf rfl (show rep M [Value.slice none 0 0] ([] : List Int) from repL_rep (repL_nil _)) (by omega)) (by omega) (by omega) (by omega)) hx27 (by omega) (by omega) (by omega)) (by omega) (by omega) (by omega))) hd22
 have hp29 : sl (pt cs12 (0 + 0 + Int.toNat x3 * 6 + 4) [.slice none 0 0]) (192) 1 = [ux1_1] := (sl_pt_apart (by omega) (by omega)).trans hp19
 have hp30 : sl (pt cs12 (0 + 0 + Int.toNat x3 * 6 + 4) [.slice none 0 0]) (0 + 0 + Int.toNat x3 * 6 + 4) 1 = [(.slice none 0 0)] := sl_pt_same (by omega) rfl
 generalize hg22 : (pt cs12 (0 + 0 + Int.toNat x3 * 6 + 4) [.slice none 0 0]) = cs22 at hb22 hp29 hp30
 refine WL_c (O_st (j := 2) (v := (.slice none 0 0)) (ws := [.slice none 0 0]) hS rfl (by kernel_rfl) rfl rfl rfl hw22 (Rep.one (show rep M [Value.slice none 0 0] ([] : List Int) from repL_rep (repL_nil _))) (by omega) ?_)
 rw [hg22]
 clear hg22
 intro w20 hS
 replace hS : St w (lentX [.row ux1_1 3 1]) M [.row (.slice none 0 0) 3 1, .box b8 (Zr.zc GNode) 48, .box b6 cs22 48, .row ux1_1 3 1] w20 := hS
 refine WL_y (Y_nil rfl) <|WL_y (Y_fa fa44_5 rfl) ?_
 replace hS := hS.nilRow 3 1
 replace hS : St w (lentX [.row ux1_1 3 1]) M [.row (.slice none 0 0) 3 1, .row (.slice none 0 0) 3 1, .box b8 (Zr.zc GNode) 48, .box b6 cs22 48, .row ux1_1 3 1] w20 := hS
 obtain ⟨x34, hx35, hz⟩ := bind_ok hz
 have hw33 : ([.slice none 0 0] : List Value).length = 1 := Rep.len (show rep M [Value.slice none 0 0] ([] : List Int) from repL_rep (repL_nil _))
 have hl33 : (cs22).length = 201 := Rep.len hb22
 have hq36 := (idxV_some hx35)
 obtain ⟨a37, hx38, hz⟩ := bind_ok hz
 obtain ⟨d39, hd33, hz⟩ := bind_ok hz
 have hb33 : rep M (pt cs22 (0 + 0 + Int.toNat x3 * 6 + 5) [.slice none 0 0]) d39 := rep_eq (rep_whole (k := 201) (by rw [pt_length (by omega)]; exact hl33) (GNode.s0 (rep_root (k := 201) rfl hb22) (vs (k := 6) rfl rfl (GNode.p0 (rep_root (k := 201) rfl hb22)) (GEntry.s5 (vp (k := 6) rfl rfl (GNode.p0 (rep_root (k := 201) rfl hb22)) hx35) (rep_leaf rfl (show rep M [Value.slice none 0 0] ([] : List Int) from repL_rep (repL_nil _)) (by omega)) (by omega) (by omega) (by omega)) hx38 (by omega) (by omega) (by omega)) (by omega) (by omega) (by omega))) hd33
 have hp40 : sl (pt cs22 (0 + 0 + Int.toNat x3 * 6 + 5) [.slice none 0 0]) (192) 1 = [ux1_1] := (sl_pt_apart (by omega) (by omega)).trans hp29
 have hp41 : sl (pt cs22 (0 + 0 + Int.toNat x3 * 6 + 5) [.slice none 0 0]) (0 + 0 + Int.toNat x3 * 6 + 4) 1 = [(.slice none 0 0)] := (sl_pt_apart (by omega) (by omega)).trans hp30
 have hp42 : sl (pt cs22 (0 + 0 + Int.toNat x3 * 6 + 5) [.slice none 0 0]) (0 + 0 + Int.toNat x3 * 6 + 5) 1 = [(.slice none 0 0)] := sl_pt_same (by omega) rfl
 generalize hg33 : (pt cs22 (0 + 0 + Int.toNat x3 * 6 + 5) [.slice none 0 0]) = cs33 at hb33 hp40 hp41 hp42
 refine WL_c (O_st (j := 3) (v := (.slice none 0 0)) (ws := [.slice none 0 0]) hS rfl (by kernel_rfl) rfl rfl rfl hw33 (Rep.one (show rep M [Value.slice none 0 0] ([] : List Int) from repL_rep (repL_nil _))) (by omega) ?_)
 rw [hg33]
 clear hg33
 intro w31 hS
 replace hS : St w (lentX [.row ux1_1 3 1]) M [.row (.slice none 0 0) 3 1, .row (.slice none 0 0) 3 1, .box b8 (Zr.zc GNode) 48, .box b6 cs33 48, .row ux1_1 3 1] w31 := hS
 refine WL_nil (nm_then ?_)
 refine W_seq <|W_seq <|W_reg <|WL_y (Y_move (.pointer (some ⟨b6, 0 + 0 + Int.toNat x3 * 6, none⟩)) rfl) <|WL_y (Y_nil rfl) <|WL_y (Y_fa fa44_1 rfl) ?_
 obtain ⟨x43, hx44, hz⟩ := bind_ok hz
 obtain ⟨v45, ev45, hv45⟩ := (GEntry.p1 (vp (k := 6) rfl rfl (GNode.p0 (rep_root (k := 201) rfl hb33)) hx44))
 refine WL_y (Y_ld1 v45 ts22 rfl (hS.bvB 3 rfl) ev45) ?_
 obtain ⟨a46, c46, hv46, _⟩ := repL_shape hv45
 refine WL_y (Y_lenL Try.underlying22 (tr2 hv46 rfl)) <|WL_y (Y_move (.int .i64 0) rfl) ?_
 refine WL_nil (nm_then ?_)
 refine W_block ?_
 refine W_loop (fun k60 T' w' => ∃ M48 cs50 d51 v52 v54 v56 y58, Mm.ext w.heap.size (lentX [.row ux1_1 3 1]) M M48 ∧ St w (lentX [.row ux1_1 3 1]) M48 [.row v56 3 1, .row v54 3 1, .box b8 (Zr.zc GNode) 48, .box b6 cs50 48, .row v52 3 1] w' ∧ rep M48 cs50 d51 ∧ sl cs50 (192) 1 = [v52] ∧ sl cs50 (0 + 0 + Int.toNat x3 * 6 + 4) 1 = [v54] ∧ sl cs50 (0 + 0 + Int.toNat x3 * 6 + 5) 1 = [v56] ∧ T' 1 = .int .i64 x3 ∧ T' 2 = .int .i64 x4 ∧ T' 3 = .pointer (some ⟨b6, 0, none⟩) ∧ T' 6 = .pointer (some ⟨b8, 0, none⟩) ∧ T' 7 = .pointer (some ⟨b6, 0 + 0 + Int.toNat x3 * 6, none⟩) ∧ T' 25 = v45 ∧ T' 26 = .int .i64 (x43.ops.length : Int) ∧ T' 27 = .int .i64 y58 ∧ nodeOne_l1 x3 x4 x43 k60 d51 y58 = some r) fu ?_ ?_ ?_
 exact ⟨M, cs33, d39, ux1_1, (.slice none 0 0), (.slice none 0 0), (0 : Int), (Mm.ext.refl _ _ _), hS, hb33, hp40, hp41, hp42, hT_1, hT_2, rfl, rfl, rfl, rfl, rfl, rfl, hz⟩
 rintro T' w' ⟨_, _, _, _, _, _, _, _, _, _, _, _, _, _, _, _, _, _, _, _, _, hz⟩
 rw [nodeOne_l1] at hz
 cases hz
 intro k60
 rintro T49 w47 ⟨M48, cs50, d51, v52, v54, v56, y58, hx62, hS, hb50, hp53, hp55, hp57, hT49_1, hT49_2, hT49_3, hT49_6, hT49_7, hT49_25, hT49_26, hT49_27, hz⟩
 replace zb8 := Rep.mono hx62.1 zb8
 replace hv45 := repL.mono hx62.1 hv45
 replace hE := Mm.ext.trans hE hx62
 have hF61 := hx62
 rw [nodeOne_l1] at hz
 obtain ⟨rec59, hrec59⟩ : ∃ f, f = nodeOne_l1 x3 x4 x43 k60 := ⟨_, rfl⟩
 rw [← hrec59] at hz
 refine W_seq <|W_reg <|WL_y (Y_lss hT49_27 hT49_26) ?_
 refine WL_nil (nm_then ?_)
 refine W_seq ?_
 refine W_cond rfl (fun hc63 => ?_) (fun hc63 => ?_)
 replace hz := bif_ok_t hz hc63
 refine W_skip (nm_then ?_)
 refine W_seqJ (fun T' w' => ∃ M65 cs67 d68 v69 v71 v73, Mm.ext w.heap.size (lentX [.row ux1_1 3 1]) M48 M65 ∧ St w (lentX [.row ux1_1 3 1]) M65 [.row v73 3 1, .row v71 3 1, .box b8 (Zr.zc GNode) 48, .box b6 cs67 48, .row v69 3 1] w' ∧ rep M65 cs67 d68 ∧ sl cs67 (192) 1 = [v69] ∧ sl cs67 (0 + 0 + Int.toNat x3 * 6 + 4) 1 = [v71] ∧ sl cs67 (0 + 0 + Int.toNat x3 * 6 + 5) 1 = [v73] ∧ T' 1 = .int .i64 x3 ∧ T' 2 = .int .i64 x4 ∧ T' 3 = .pointer (some ⟨b6, 0, none⟩) ∧ T' 6 = .pointer (some ⟨b8, 0, none⟩) ∧ T' 7 = .pointer (some ⟨b6, 0 + 0 + Int.toNat x3 * 6, none⟩) ∧ T' 25 = v45 ∧ T' 26 = .int .i64 (x43.ops.length : Int) ∧ T' 27 = .int .i64 y58 ∧ nodeOne_j1 y58 rec59 d68 = some r) ?_ ?_
 have hF76 := Mm.ext.refl w.heap.size (lentX [.row ux1_1 3 1]) M48
 refine W_block <|W_seq <|W_reg <|WL_y (Y_move (.int .i64 y58) hT49_27) ?_
 obtain ⟨x78, hx77, hz⟩ := bind_ok hz
 obtain ⟨b77, o77, c77, p77, hv77, hi77, hj77, hM77, hr77⟩ := repL_at hv45 hx77
 replace hr77 : rep _ (sl p77 (o77 + Int.toNat y58 * 3) 3) x78 := hr77
 refine WL_y (Y_ixL il22 hT49_25 hv77 hT49_27 hi77 hj77) ?_
 have ha79 := hr77
 refine WL_y (Y_ldn ta78 rfl (hS.bvM hM77) (Rep.len ha79)) ?_
 refine WL_c (O_alloc tz78 hS ?_)
 intro b81 w80 hb81 hS
 replace hS : St w (lentX [.row ux1_1 3 1]) M48 [.box b81 (Zr.zc GOp) 78, .row v56 3 1, .row v54 3 1, .box b8 (Zr.zc GNode) 48, .box b6 cs50 48, .row v52 3 1] w80 := hS
 have zb81 : rep M48 (Zr.zc GOp) (Zr.zd : GOp) := Zr.zr
 refine WL_y (Y_assign (.int .i64 y58) rfl) ?_
 have hw83 : ((sl p77 (o77 + Int.toNat y58 * 3) 3) : List Value).length = 3 := Rep.len ha79
 have hl83 : ((Zr.zc GOp)).length = 3 := Rep.len zb81
 obtain ⟨d84, hd83, hz⟩ := bind_ok hz
 have hb83 : rep M48 (pt (Zr.zc GOp) (0) (sl p77 (o77 + Int.toNat y58 * 3) 3)) d84 := rep_eq (rep_whole (k := 3) (by rw [pt_length (by omega)]; exact hl83) (rep_leaf rfl ha79 (by omega))) hd83
 generalize hg83 : (pt (Zr.zc GOp) (0) (sl p77 (o77 + Int.toNat y58 * 3) 3)) = cs83 at hb83
 refine WL_c (O_st (j := 0) (v := .agg (sl p77 (o77 + Int.toNat y58 * 3) 3).toArray) (ws := (sl p77 (o77 + Int.toNat y58 * 3) 3)) hS rfl (by kernel_rfl) rfl rfl rfl hw83 (Rep.one ha79) (by omega) ?_)
 rw [hg83]
 clear hg83
 intro w82 hS
 replace hS : St w (lentX [.row ux1_1 3 1]) M48 [.box b81 cs83 78, .row v56 3 1, .row v54 3 1, .box b8 (Zr.zc GNode) 48, .box b6 cs50 48, .row v52 3 1] w82 := hS
 refine WL_nil (nm_then ?_)
 refine W_seq <|W_reg <|WL_y (Y_fa fa78_1 rfl) <|WL_y (Y_ld1 (.int .i64 d84.key) ts3 rfl (hS.bvB 0 rfl) (GOp.p1 (rep_root (k := 3) rfl hb83))) ?_
 obtain ⟨r87, hr86, hz⟩ := bind_ok hz
 replace hr86 := Option.some.inj hr86
 refine WL_c (O_val (vs := [.int .i64 d84.key]) (v := .int .i64 r87) cb48 (args1 rfl) hS (hr86 ▸ (c_shard)) ?_)
 intro w85 hS
 refine WL_y (Y_move (.int .i64 x4) hT49_2) <|WL_y (Y_eql rfl rfl) ?_
 refine WL_nil (nm_then ?_)
 refine W_cond rfl (fun hc88 => ?_) (fun hc88 => ?_)
 replace hz := bif_ok_t hz hc88
 refine W_seq <|W_drawB (Rd M48 [.box b81 cs83 78, .box b6 cs50 48]) (inL [11]) mixed hS fun w89 hS => ?_
 have hG90 := Mm.ext.refl w.heap.size (lentX [.row ux1_1 3 1]) M48
 have hR91 : Rd M48 [.box b81 cs83 78, .box b6 cs50 48] w89 := Rd.of hS hG90 (by simp)
 refine WB_y (i := 0) rfl (by kernel_rfl) rfl (Y_fa fa78_1 rfl) (fun _ => hR91) <|WB_ld (i := 1) rfl (by kernel_rfl) rfl (inL_lt rfl) (by kernel_rfl) (by kernel_rfl) (Y_ld1 (.int .i64 d84.key) ts3 rfl (bvR 0 rfl) (GOp.p1 (rep_root (k := 3) rfl hb83))) hR91 <|WB_y (i := 2) rfl (by kernel_rfl) rfl (Y_fa fa78_1 rfl) (fun _ => hR91) <|WB_ld (i := 3) rfl (by kernel_rfl) rfl (inL_lt rfl) (by kernel_rfl) (by kernel_rfl) (Y_ld1 (.int .i64 d84.key) ts3 rfl (bvR 0 rfl) (GOp.p1 (rep_root (k := 3) rfl hb83))) hR91 <|WB_y (i := 4) rfl (by kernel_rfl) rfl (Y_fa fa48_2 hT49_3) (fun _ => hR91) ?_
 obtain ⟨u92, hx93, hz⟩ := bind_ok hz
 obtain ⟨hx93a, hx93b⟩ := inR_some hx93
 refine WB_y (i := 5) rfl (by kernel_rfl) rfl (Y_ixA ia46 rfl rfl hx93a hx93b) (fun _ => hR91) ?_
 obtain ⟨x94, hx95, hz⟩ := bind_ok hz
 refine WB_ld (i := 6) rfl (by kernel_rfl) rfl (inL_lt rfl) (by kernel_rfl) (by kernel_rfl) (Y_ld1 (.int .i64 x94) ts3 rfl (bvR 1 rfl) (vp (k := 1) rfl rfl (GNode.p2 (rep_root (k := 201) rfl hb50)) hx95)) hR91 ?_
 have ha96 := (rep_root (k := 3) rfl hb83)
 refine WB_ld (i := 7) rfl (by kernel_rfl) rfl (inL_lt rfl) (by kernel_rfl) (by kernel_rfl) (Y_ldn ta78 rfl (bvR 0 rfl) (Rep.len ha96)) hR91 <|WB_y (i := 9) rfl (by kernel_rfl) rfl (Y_fa fa48_2 hT49_3) (fun _ => hR91) ?_
 obtain ⟨r99, hr98, hz⟩ := bind_ok hz
 replace hr98 := Option.some.inj hr98
 refine WB_one (i := 8) (by kernel_rfl) rfl (O_val (vs := [.int .i64 x94, .agg (sl cs83 (0) 3).toArray]) (v := .int .i64 r99) cb88 (args2 rfl rfl) hS (hr98 ▸ (c_do hS.agree ha96)) ?_)
 intro w97 hS
 have hR100 : Rd M48 [.box b81 cs83 78, .box b6 cs50 48] w97 := Rd.of hS hG90 (by simp)
 refine ⟨fun _ => hR100, ?_⟩
 obtain ⟨u101, hx102, hz⟩ := bind_ok hz
 obtain ⟨hx102a, hx102b⟩ := inR_some hx102
 refine WB_y (i := 10) rfl (by kernel_rfl) rfl (Y_ixA ia46 rfl rfl hx102a hx102b) (fun _ => hR100) ?_
 obtain ⟨x105, hx106, hz⟩ := bind_ok hz
 have hw104 : ([.int .i64 r99] : List Value).length = 1 := Rep.len (show rep M48 [Value.int .i64 r99] (r99 : Int) from rfl)
 have hl104 : (cs50).length = 201 := Rep.len hb50
 have hq107 := (idxV_some hx106)
 obtain ⟨a108, hx109, hz⟩ := bind_ok hz
 obtain ⟨d110, hd104, hz⟩ := bind_ok hz
 have hb104 : rep M48 (pt cs50 (0 + 193 + Int.toNat d84.key * 1) [.int .i64 r99]) d110 := rep_eq (rep_whole (k := 201) (by rw [pt_length (by omega)]; exact hl104) (GNode.s2 (rep_root (k := 201) rfl hb50) (vs (k := 1) rfl rfl (GNode.p2 (rep_root (k := 201) rfl hb50)) (rep_leaf rfl (show rep M48 [Value.int .i64 r99] (r99 : Int) from rfl) (by omega)) hx109 (by omega) (by omega) (by omega)) (by omega) (by omega) (by omega))) hd104
 have hp111 : sl (pt cs50 (0 + 193 + Int.toNat d84.key * 1) [.int .i64 r99]) (192) 1 = [v52] := (sl_pt_apart (by omega) (by omega)).trans hp53
 have hp112 : sl (pt cs50 (0 + 193 + Int.toNat d84.key * 1) [.int .i64 r99]) (0 + 0 + Int.toNat x3 * 6 + 4) 1 = [v54] := (sl_pt_apart (by omega) (by omega)).trans hp55
 have hp113 : sl (pt cs50 (0 + 193 + Int.toNat d84.key * 1) [.int .i64 r99]) (0 + 0 + Int.toNat x3 * 6 + 5) 1 = [v56] := (sl_pt_apart (by omega) (by omega)).trans hp57
 generalize hg104 : (pt cs50 (0 + 193 + Int.toNat d84.key * 1) [.int .i64 r99]) = cs104 at hb104 hp111 hp112 hp113
 refine WB_one (i := 11) (by kernel_rfl) rfl (O_st (j := 4) (v := .int .i64 r99) (ws := [.int .i64 r99]) hS rfl (by kernel_rfl) rfl rfl rfl hw104 (Rep.one (show rep M48 [Value.int .i64 r99] (r99 : Int) from rfl)) (by omega) ?_)
 rw [hg104]
 clear hg104
 intro w103 hS
 replace hS : St w (lentX [.row ux1_1 3 1]) M48 [.box b81 cs83 78, .row v56 3 1, .row v54 3 1, .box b8 (Zr.zc GNode) 48, .box b6 cs104 48, .row v52 3 1] w103 := hS
 refine ⟨fun h => Bool.noConfusion (show false = true from h), ?_⟩
 refine WB_done (by kernel_rfl) (nm_then ?_)
 refine W_J (fun T' w' => ∃ M115 cs117 d118 v120 v122, Mm.ext w.heap.size (lentX [.row ux1_1 3 1]) M48 M115 ∧ St w (lentX [.row ux1_1 3 1]) M115 [.box b81 cs83 78, .row v122 3 1, .row v120 3 1, .box b8 (Zr.zc GNode) 48, .box b6 cs117 48, .row v52 3 1] w' ∧ rep M115 cs117 d118 ∧ sl cs117 (192) 1 = [v52] ∧ sl cs117 (0 + 0 + Int.toNat x3 * 6 + 4) 1 = [v120] ∧ sl cs117 (0 + 0 + Int.toNat x3 * 6 + 5) 1 = [v122] ∧ T' 1 = .int .i64 x3 ∧ T' 2 = .int .i64 x4 ∧ T' 3 = .pointer (some ⟨b6, 0, none⟩) ∧ T' 6 = .pointer (some ⟨b8, 0, none⟩) ∧ T' 7 = .pointer (some ⟨b6, 0 + 0 + Int.toNat x3 * 6, none⟩) ∧ T' 25 = v45 ∧ T' 26 = .int .i64 (x43.ops.length : Int) ∧ T' 27 = .int .i64 y58 ∧ nodeOne_j2 y58 rec59 d118 = some r) ?_ ?_
 have hF125 := Mm.ext.refl w.heap.size (lentX [.row ux1_1 3 1]) M48
 refine W_drawB (Rd M48 [.box b81 cs83 78, .box b6 cs104 48]) (inL [22, 25]) mixed hS fun w126 hS => ?_
 have hG127 := Mm.ext.refl w.heap.size (lentX [.row ux1_1 3 1]) M48
 have hR128 : Rd M48 [.box b81 cs83 78, .box b6 cs104 48] w126 := Rd.of hS hG127 (by simp)
 refine WB_y (i := 0) rfl (by kernel_rfl) rfl (Y_move (.pointer (some ⟨b6, 0 + 0 + Int.toNat x3 * 6, none⟩)) hT49_7) (fun _ => hR128) <|WB_y (i := 1) rfl (by kernel_rfl) rfl (Y_move (.pointer (some ⟨b6, 0 + 0 + Int.toNat x3 * 6, none⟩)) hT49_7) (fun _ => hR128) <|WB_y (i := 2) rfl (by kernel_rfl) rfl (Y_move (.pointer (some ⟨b6, 0 + 0 + Int.toNat x3 * 6, none⟩)) hT49_7) (fun _ => hR128) <|WB_y (i := 3) rfl (by kernel_rfl) rfl (Y_nil rfl) (fun _ => hR128) <|WB_y (i := 4) rfl (by kernel_rfl) rfl (Y_fa fa44_4 rfl) (fun _ => hR128) ?_
 obtain ⟨x129, hx130, hz⟩ := bind_ok hz
 obtain ⟨v131, ev131, hv131⟩ := (GEntry.p4 (vp (k := 6) rfl rfl (GNode.p0 (rep_root (k := 201) rfl hb104)) hx130))
 rw [sl_one_eq ev131 hp112] at hv131
 refine WB_ld (i := 5) rfl (by kernel_rfl) rfl (inL_lt rfl) (by kernel_rfl) (by kernel_rfl) (Y_ld1 v54 ts27 rfl (bvR 1 rfl) hp112) hR128 <|WB_y (i := 6) rfl (by kernel_rfl) rfl (Y_move (.int .i64 y58) rfl) (fun _ => hR128) <|WB_y (i := 9) rfl (by kernel_rfl) rfl (Y_move (.pointer (some ⟨b6, 0 + 0 + Int.toNat x3 * 6, none⟩)) hT49_7) (fun _ => hR128) <|WB_y (i := 10) rfl (by kernel_rfl) rfl (Y_nil rfl) (fun _ => hR128) <|WB_y (i := 11) rfl (by kernel_rfl) rfl (Y_fa fa44_5 rfl) (fun _ => hR128) ?_
 obtain ⟨x132, hx133, hz⟩ := bind_ok hz
 obtain ⟨v134, ev134, hv134⟩ := (GEntry.p5 (vp (k := 6) rfl rfl (GNode.p0 (rep_root (k := 201) rfl hb104)) hx133))
 rw [sl_one_eq ev134 hp113] at hv134
 refine WB_ld (i := 12) rfl (by kernel_rfl) rfl (inL_lt rfl) (by kernel_rfl) (by kernel_rfl) (Y_ld1 v56 ts27 rfl (bvR 1 rfl) hp113) hR128 <|WB_y (i := 13) rfl (by kernel_rfl) rfl (Y_fa fa78_1 rfl) (fun _ => hR128) <|WB_ldC (C := inL [16, 17, 18, 22, 25]) (i := 14) rfl (by kernel_rfl) rfl (inL_lt rfl) ⟨by kernel_rfl, inL_lt rfl⟩ (by kernel_rfl) (by kernel_rfl) (Y_ld1 (.int .i64 d84.key) ts3 rfl (bvR 0 rfl) (GOp.p1 (rep_root (k := 3) rfl hb83))) hR128 <|WB_y (i := 15) rfl (by kernel_rfl) rfl (Y_fa fa48_2 hT49_3) (fun _ => hR128) ?_
 obtain ⟨u135, hx136, hz⟩ := bind_ok hz
 obtain ⟨hx136a, hx136b⟩ := inR_some hx136
 refine WB_y (i := 16) rfl (by kernel_rfl) rfl (Y_ixA ia46 rfl rfl hx136a hx136b) (fun _ => hR128) ?_
 obtain ⟨x137, hx138, hz⟩ := bind_ok hz
 refine WB_ld (i := 17) rfl (by kernel_rfl) rfl (inL_lt rfl) (by kernel_rfl) (by kernel_rfl) (Y_ld1 (.int .i64 x137) ts3 rfl (bvR 1 rfl) (vp (k := 1) rfl rfl (GNode.p2 (rep_root (k := 201) rfl hb104)) hx138)) hR128 ?_
 obtain ⟨l143, hr142, hz⟩ := bind_ok hz
 obtain ⟨l148, hr147, hz⟩ := bind_ok hz
 obtain ⟨x151, hx152, hz⟩ := bind_ok hz
 obtain ⟨a154, hx155, hz⟩ := bind_ok hz
 obtain ⟨d156, hd150, hz⟩ := bind_ok hz
 obtain ⟨x162, hx163, hz⟩ := bind_ok hz
 obtain ⟨a165, hx166, hz⟩ := bind_ok hz
 obtain ⟨d167, hd161, hz⟩ := bind_ok hz
 refine WB_two (i := 7) (j := 18) (by kernel_rfl) rfl rfl (O_bslice (α := Int) (l := ([y58] : List Int)) [.int .i64 y58] tl27 (bpc rfl bp0) rfl rfl (by decide) (by decide) (by decide) hS (brc (show rep M48 [Value.int .i64 y58] (y58 : Int) from rfl) br0) ?_) (O_bslice (α := Int) (l := ([x137] : List Int)) [.int .i64 x137] tl27 (bpc rfl bp0) rfl rfl (by decide) (by decide) (by decide) hS (brc (show rep M48 [Value.int .i64 x137] (x137 : Int) from rfl) br0) ?_)
 intro v140 M140 w139 hx140 hv140 hS
 replace zb8 := Rep.mono hx140.1 zb8
 replace hv45 := repL.mono hx140.1 hv45
 replace hb83 := Rep.mono hx140.1 hb83
 replace hb104 := Rep.mono hx140.1 hb104
 replace hv131 := repL.mono hx140.1 hv131
 replace hv134 := repL.mono hx140.1 hv134
 replace hE := Mm.ext.trans hE hx140
 replace hF61 := Mm.ext.trans hF61 hx140
 replace hF76 := Mm.ext.trans hF76 hx140
 replace hF125 := Mm.ext.trans hF125 hx140
 replace hG127 := Mm.ext.trans hG127 hx140
 have hR171 : Rd M48 [.box b81 cs83 78, .box b6 cs104 48] w139 := Rd.of hS hG127 (by simp)
 refine ⟨fun _ => hR171, ?_⟩
 obtain ⟨hy142, hs142⟩ := app_some hr142
 refine WB_two (i := 8) (j := 18) (by kernel_rfl) rfl rfl (O_app (α := Int) (j := 2) tp27 hS rfl rfl rfl hv131 hv140 hy142 ?_) (O_bslice (α := Int) (l := ([x137] : List Int)) [.int .i64 x137] tl27 (bpc rfl bp0) rfl rfl (by decide) (by decide) (by decide) hS (brc (show rep M140 [Value.int .i64 x137] (x137 : Int) from rfl) br0) ?_)
 intro v142 M142 w141 hx142 hv142 hS
 rw [← hs142] at hv142
 clear hr142 hs142
 replace zb8 := Rep.mono hx142.1 zb8
 replace hv45 := repL.mono hx142.1 hv45
 replace hb83 := Rep.mono hx142.1 hb83
 replace hb104 := Rep.mono hx142.1 hb104
 replace hv131 := repL.mono hx142.1 hv131
 replace hv134 := repL.mono hx142.1 hv134
 replace hv140 := repL.mono hx142.1 hv140
 replace hE := Mm.ext.trans hE hx142
 replace hF61 := Mm.ext.trans hF61 hx142
 replace hF76 := Mm.ext.trans hF76 hx142
 replace hF125 := Mm.ext.trans hF125 hx142
 replace hG127 := Mm.ext.trans hG127 hx142
 replace hS : St w (lentX [.row ux1_1 3 1]) M142 [.box b81 cs83 78, .row v56 3 1, .row v142 3 1, .box b8 (Zr.zc GNode) 48, .box b6 cs104 48, .row v52 3 1] w141 := hS
 have hR172 : Rd M48 [.box b81 cs83 78, .box b6 cs104 48] w141 := Rd.of hS hG127 (by simp)
 refine ⟨fun _ => hR172, ?_⟩
 refine WB_one (i := 18) (by kernel_rfl) rfl (O_bslice (α := Int) (l := ([x137] : List Int)) [.int .i64 x137] tl27 (bpc rfl bp0) rfl rfl (by decide) (by decide) (by decide) hS (brc (show rep M142 [Value.int .i64 x137] (x137 : Int) from rfl) br0) ?_)
 intro v145 M145 w144 hx145 hv145 hS
 replace zb8 := Rep.mono hx145.1 zb8
 replace hv45 := repL.mono hx145.1 hv45
 replace hb83 := Rep.mono hx145.1 hb83
 replace hb104 := Rep.mono hx145.1 hb104
 replace hv131 := repL.mono hx145.1 hv131
 replace hv134 := repL.mono hx145.1 hv134
 replace hv140 := repL.mono hx145.1 hv140
 replace hv142 := repL.mono hx145.1 hv142
 replace hE := Mm.ext.trans hE hx145
 replace hF61 := Mm.ext.trans hF61 hx145
 replace hF76 := Mm.ext.trans hF76 hx145
 replace hF125 := Mm.ext.trans hF125 hx145
 replace hG127 := Mm.ext.trans hG127 hx145
 have hR173 : Rd M48 [.box b81 cs83 78, .box b6 cs104 48] w144 := Rd.of hS hG127 (by simp)
 refine ⟨fun _ => hR173, ?_⟩
 obtain ⟨hy147, hs147⟩ := app_some hr147
 refine WB_one (i := 19) (by kernel_rfl) rfl (O_app (α := Int) (j := 1) tp27 hS rfl rfl rfl hv134 hv145 hy147 ?_)
 intro v147 M147 w146 hx147 hv147 hS
 rw [← hs147] at hv147
 clear hr147 hs147
 replace zb8 := Rep.mono hx147.1 zb8
 replace hv45 := repL.mono hx147.1 hv45
 replace hb83 := Rep.mono hx147.1 hb83
 replace hb104 := Rep.mono hx147.1 hb104
 replace hv131 := repL.mono hx147.1 hv131
 replace hv134 := repL.mono hx147.1 hv134
 replace hv140 := repL.mono hx147.1 hv140
 replace hv142 := repL.mono hx147.1 hv142
 replace hv145 := repL.mono hx147.1 hv145
 replace hE := Mm.ext.trans hE hx147
 replace hF61 := Mm.ext.trans hF61 hx147
 replace hF76 := Mm.ext.trans hF76 hx147
 replace hF125 := Mm.ext.trans hF125 hx147
 replace hG127 := Mm.ext.trans hG127 hx147
 replace hS : St w (lentX [.row ux1_1 3 1]) M147 [.box b81 cs83 78, .row v147 3 1, .row v142 3 1, .box b8 (Zr.zc GNode) 48, .box b6 cs104 48, .row v52 3 1] w146 := hS
 have hR174 : Rd M48 [.box b81 cs83 78, .box b6 cs104 48] w146 := Rd.of hS hG127 (by simp)
 refine ⟨fun _ => hR174, ?_⟩
 refine WB_y (i := 20) rfl (by kernel_rfl) rfl (Y_nil rfl) (fun _ => hR174) <|WB_y (i := 21) rfl (by kernel_rfl) rfl (Y_fa fa44_4 rfl) (fun _ => hR174) ?_
 have hw150 : ([v142] : List Value).length = 1 := Rep.len (repL_rep hv142)
 have hl150 : (cs104).length = 201 := Rep.len hb104
 have hq153 := (idxV_some hx152)
 have hb150 : rep M147 (pt cs104 (0 + 0 + Int.toNat x3 * 6 + 4) [v142]) d156 := rep_eq (rep_whole (k := 201) (by rw [pt_length (by omega)]; exact hl150) (GNode.s0 (rep_root (k := 201) rfl hb104) (vs (k := 6) rfl rfl (GNode.p0 (rep_root (k := 201) rfl hb104)) (GEntry.s4 (vp (k := 6) rfl rfl (GNode.p0 (rep_root (k := 201) rfl hb104)) hx152) (rep_leaf rfl (repL_rep hv142) (by omega)) (by omega) (by omega) (by omega)) hx155 (by omega) (by omega) (by omega)) (by omega) (by omega) (by omega))) hd150
 have hp157 : sl (pt cs104 (0 + 0 + Int.toNat x3 * 6 + 4) [v142]) (192) 1 = [v52] := (sl_pt_apart (by omega) (by omega)).trans hp111
 have hp158 : sl (pt cs104 (0 + 0 + Int.toNat x3 * 6 + 4) [v142]) (0 + 0 + Int.toNat x3 * 6 + 5) 1 = [v56] := (sl_pt_apart (by omega) (by omega)).trans hp113
 have hp159 : sl (pt cs104 (0 + 0 + Int.toNat x3 * 6 + 4) [v142]) (0 + 0 + Int.toNat x3 * 6 + 4) 1 = [v142] := sl_pt_same (by omega) rfl
 generalize hg150 : (pt cs104 (0 + 0 + Int.toNat x3 * 6 + 4) [v142]) = cs150 at hb150 hp157 hp158 hp159
 refine WB_one (i := 22) (by kernel_rfl) rfl (O_st (j := 4) (v := v142) (ws := [v142]) hS rfl (by kernel_rfl) rfl rfl (repL_cells hv142) hw150 (Rep.one (repL_rep hv142)) (by omega) ?_)
 rw [hg150]
 clear hg150
 intro w149 hS
 replace hS : St w (lentX [.row ux1_1 3 1]) M147 [.box b81 cs83 78, .row v147 3 1, .row v142 3 1, .box b8 (Zr.zc GNode) 48, .box b6 cs150 48, .row v52 3 1] w149 := hS
 refine ⟨fun h => Bool.noConfusion (show false = true from h), ?_⟩
 refine WB_y (i := 23) rfl (by kernel_rfl) rfl (Y_nil rfl) (fun h => Bool.noConfusion (show false = true from h)) <|WB_y (i := 24) rfl (by kernel_rfl) rfl (Y_fa fa44_5 rfl) (fun h => Bool.noConfusion (show false = true from h)) ?_
 have hw161 : ([v147] : List Value).length = 1 := Rep.len (repL_rep hv147)
 have hl161 : (cs150).length = 201 := Rep.len hb150
 have hq164 := (idxV_some hx163)
 have hb161 : rep M147 (pt cs150 (0 + 0 + Int.toNat x3 * 6 + 5) [v147]) d167 := rep_eq (rep_whole (k := 201) (by rw [pt_length (by omega)]; exact hl161) (GNode.s0 (rep_root (k := 201) rfl hb150) (vs (k := 6) rfl rfl (GNode.p0 (rep_root (k := 201) rfl hb150)) (GEntry.s5 (vp (k := 6) rfl rfl (GNode.p0 (rep_root (k := 201) rfl hb150)) hx163) (rep_leaf rfl (repL_rep hv147) (by omega)) (by omega) (by omega) (by omega)) hx166 (by omega) (by omega) (by omega)) (by omega) (by omega) (by omega))) hd161
 have hp168 : sl (pt cs150 (0 + 0 + Int.toNat x3 * 6 + 5) [v147]) (192) 1 = [v52] := (sl_pt_apart (by omega) (by omega)).trans hp157
 have hp169 : sl (pt cs150 (0 + 0 + Int.toNat x3 * 6 + 5) [v147]) (0 + 0 + Int.toNat x3 * 6 + 4) 1 = [v142] := (sl_pt_apart (by omega) (by omega)).trans hp159
 have hp170 : sl (pt cs150 (0 + 0 + Int.toNat x3 * 6 + 5) [v147]) (0 + 0 + Int.toNat x3 * 6 + 5) 1 = [v147] := sl_pt_same (by omega) rfl
 generalize hg161 : (pt cs150 (0 + 0 + Int.toNat x3 * 6 + 5) [v147]) = cs161 at hb161 hp168 hp169 hp170
 refine WB_one (i := 25) (by kernel_rfl) rfl (O_st (j := 4) (v := v147) (ws := [v147]) hS rfl (by kernel_rfl) rfl rfl (repL_cells hv147) hw161 (Rep.one (repL_rep hv147)) (by omega) ?_)
 rw [hg161]
 clear hg161
 intro w160 hS
 replace hS : St w (lentX [.row ux1_1 3 1]) M147 [.box b81 cs83 78, .row v147 3 1, .row v142 3 1, .box b8 (Zr.zc GNode) 48, .box b6 cs161 48, .row v52 3 1] w160 := hS
 refine ⟨fun h => Bool.noConfusion (show false = true from h), ?_⟩
 refine WB_done (by kernel_rfl) (nm_then ?_)
 exact ⟨M147, cs161, d167, v142, v147, hF125, hS, hb161, hp168, hp169, hp170, hT49_1, hT49_2, hT49_3, hT49_6, hT49_7, hT49_25, hT49_26, hT49_27, hz⟩
 intro v145 M145 w144 hx145 hv145 hS
 replace zb8 := Rep.mono hx145.1 zb8
 replace hv45 := repL.mono hx145.1 hv45
 replace hb83 := Rep.mono hx145.1 hb83
 replace hb104 := Rep.mono hx145.1 hb104
 replace hv131 := repL.mono hx145.1 hv131
 replace hv134 := repL.mono hx145.1 hv134
 replace hv140 := repL.mono hx145.1 hv140
 replace hE := Mm.ext.trans hE hx145
 replace hF61 := Mm.ext.trans hF61 hx145
 replace hF76 := Mm.ext.trans hF76 hx145
 replace hF125 := Mm.ext.trans hF125 hx145
 replace hG127 := Mm.ext.trans hG127 hx145
 have hR175 : Rd M48 [.box b81 cs83 78, .box b6 cs104 48] w144 := Rd.of hS hG127 (by simp)
 refine ⟨fun _ => hR175, ?_⟩
 obtain ⟨hy142, hs142⟩ := app_some hr142
 refine WB_one (i := 8) (by kernel_rfl) rfl (O_app (α := Int) (j := 2) tp27 hS rfl rfl rfl hv131 hv140 hy142 ?_)
 intro v142 M142 w141 hx142 hv142 hS
 rw [← hs142] at hv142
 clear hr142 hs142
 replace zb8 := Rep.mono hx142.1 zb8
 replace hv45 := repL.mono hx142.1 hv45
 replace hb83 := Rep.mono hx142.1 hb83
 replace hb104 := Rep.mono hx142.1 hb104
 replace hv131 := repL.mono hx142.1 hv131
 replace hv134 := repL.mono hx142.1 hv134
 replace hv140 := repL.mono hx142.1 hv140
 replace hv145 := repL.mono hx142.1 hv145
 replace hE := Mm.ext.trans hE hx142
 replace hF61 := Mm.ext.trans hF61 hx142
 replace hF76 := Mm.ext.trans hF76 hx142
 replace hF125 := Mm.ext.trans hF125 hx142
 replace hG127 := Mm.ext.trans hG127 hx142
 replace hS : St w (lentX [.row ux1_1 3 1]) M142 [.box b81 cs83 78, .row v56 3 1, .row v142 3 1, .box b8 (Zr.zc GNode) 48, .box b6 cs104 48, .row v52 3 1] w141 := hS
 have hR176 : Rd M48 [.box b81 cs83 78, .box b6 cs104 48] w141 := Rd.of hS hG127 (by simp)
 refine ⟨fun _ => hR176, ?_⟩
 obtain ⟨hy147, hs147⟩ := app_some hr147
 refine WB_one (i := 19) (by kernel_rfl) rfl (O_app (α := Int) (j := 1) tp27 hS rfl rfl rfl hv134 hv145 hy147 ?_)
 intro v147 M147 w146 hx147 hv147 hS
 rw [← hs147] at hv147
 clear hr147 hs147
 replace zb8 := Rep.mono hx147.1 zb8
 replace hv45 := repL.mono hx147.1 hv45
 replace hb83 := Rep.mono hx147.1 hb83
 replace hb104 := Rep.mono hx147.1 hb104
 replace hv131 := repL.mono hx147.1 hv131
 replace hv134 := repL.mono hx147.1 hv134
 replace hv140 := repL.mono hx147.1 hv140
 replace hv145 := repL.mono hx147.1 hv145
 replace hv142 := repL.mono hx147.1 hv142
 replace hE := Mm.ext.trans hE hx147
 replace hF61 := Mm.ext.trans hF61 hx147
 replace hF76 := Mm.ext.trans hF76 hx147
 replace hF125 := Mm.ext.trans hF125 hx147
 replace hG127 := Mm.ext.trans hG127 hx147
 replace hS : St w (lentX [.row ux1_1 3 1]) M147 [.box b81 cs83 78, .row v147 3 1, .row v142 3 1, .box b8 (Zr.zc GNode) 48, .box b6 cs104 48, .row v52 3 1] w146 := hS
 have hR177 : Rd M48 [.box b81 cs83 78, .box b6 cs104 48] w146 := Rd.of hS hG127 (by simp)
 refine ⟨fun _ => hR177, ?_⟩
 refine WB_y (i := 20) rfl (by kernel_rfl) rfl (Y_nil rfl) (fun _ => hR177) <|WB_y (i := 21) rfl (by kernel_rfl) rfl (Y_fa fa44_4 rfl) (fun _ => hR177) ?_
 have hw150 : ([v142] : List Value).length = 1 := Rep.len (repL_rep hv142)
 have hl150 : (cs104).length = 201 := Rep.len hb104
 have hq153 := (idxV_some hx152)
 have hb150 : rep M147 (pt cs104 (0 + 0 + Int.toNat x3 * 6 + 4) [v142]) d156 := rep_eq (rep_whole (k := 201) (by rw [pt_length (by omega)]; exact hl150) (GNode.s0 (rep_root (k := 201) rfl hb104) (vs (k := 6) rfl rfl (GNode.p0 (rep_root (k := 201) rfl hb104)) (GEntry.s4 (vp (k := 6) rfl rfl (GNode.p0 (rep_root (k := 201) rfl hb104)) hx152) (rep_leaf rfl (repL_rep hv142) (by omega)) (by omega) (by omega) (by omega)) hx155 (by omega) (by omega) (by omega)) (by omega) (by omega) (by omega))) hd150
 have hp157 : sl (pt cs104 (0 + 0 + Int.toNat x3 * 6 + 4) [v142]) (192) 1 = [v52] := (sl_pt_apart (by omega) (by omega)).trans hp111
 have hp158 : sl (pt cs104 (0 + 0 + Int.toNat x3 * 6 + 4) [v142]) (0 + 0 + Int.toNat x3 * 6 + 5) 1 = [v56] := (sl_pt_apart (by omega) (by omega)).trans hp113
 have hp159 : sl (pt cs104 (0 + 0 + Int.toNat x3 * 6 + 4) [v142]) (0 + 0 + Int.toNat x3 * 6 + 4) 1 = [v142] := sl_pt_same (by omega) rfl
 generalize hg150 : (pt cs104 (0 + 0 + Int.toNat x3 * 6 + 4) [v142]) = cs150 at hb150 hp157 hp158 hp159
 refine WB_one (i := 22) (by kernel_rfl) rfl (O_st (j := 4) (v := v142) (ws := [v142]) hS rfl (by kernel_rfl) rfl rfl (repL_cells hv142) hw150 (Rep.one (repL_rep hv142)) (by omega) ?_)
 rw [hg150]
 clear hg150
 intro w149 hS
 replace hS : St w (lentX [.row ux1_1 3 1]) M147 [.box b81 cs83 78, .row v147 3 1, .row v142 3 1, .box b8 (Zr.zc GNode) 48, .box b6 cs150 48, .row v52 3 1] w149 := hS
 refine ⟨fun h => Bool.noConfusion (show false = true from h), ?_⟩
 refine WB_y (i := 23) rfl (by kernel_rfl) rfl (Y_nil rfl) (fun h => Bool.noConfusion (show false = true from h)) <|WB_y (i := 24) rfl (by kernel_rfl) rfl (Y_fa fa44_5 rfl) (fun h => Bool.noConfusion (show false = true from h)) ?_
 have hw161 : ([v147] : List Value).length = 1 := Rep.len (repL_rep hv147)
 have hl161 : (cs150).length = 201 := Rep.len hb150
 have hq164 := (idxV_some hx163)
 have hb161 : rep M147 (pt cs150 (0 + 0 + Int.toNat x3 * 6 + 5) [v147]) d167 := rep_eq (rep_whole (k := 201) (by rw [pt_length (by omega)]; exact hl161) (GNode.s0 (rep_root (k := 201) rfl hb150) (vs (k := 6) rfl rfl (GNode.p0 (rep_root (k := 201) rfl hb150)) (GEntry.s5 (vp (k := 6) rfl rfl (GNode.p0 (rep_root (k := 201) rfl hb150)) hx163) (rep_leaf rfl (repL_rep hv147) (by omega)) (by omega) (by omega) (by omega)) hx166 (by omega) (by omega) (by omega)) (by omega) (by omega) (by omega))) hd161
 have hp168 : sl (pt cs150 (0 + 0 + Int.toNat x3 * 6 + 5) [v147]) (192) 1 = [v52] := (sl_pt_apart (by omega) (by omega)).trans hp157
 have hp169 : sl (pt cs150 (0 + 0 + Int.toNat x3 * 6 + 5) [v147]) (0 + 0 + Int.toNat x3 * 6 + 4) 1 = [v142] := (sl_pt_apart (by omega) (by omega)).trans hp159
 have hp170 : sl (pt cs150 (0 + 0 + Int.toNat x3 * 6 + 5) [v147]) (0 + 0 + Int.toNat x3 * 6 + 5) 1 = [v147] := sl_pt_same (by omega) rfl
 generalize hg161 : (pt cs150 (0 + 0 + Int.toNat x3 * 6 + 5) [v147]) = cs161 at hb161 hp168 hp169 hp170
 refine WB_one (i := 25) (by kernel_rfl) rfl (O_st (j := 4) (v := v147) (ws := [v147]) hS rfl (by kernel_rfl) rfl rfl (repL_cells hv147) hw161 (Rep.one (repL_rep hv147)) (by omega) ?_)
 rw [hg161]
 clear hg161
 intro w160 hS
 replace hS : St w (lentX [.row ux1_1 3 1]) M147 [.box b81 cs83 78, .row v147 3 1, .row v142 3 1, .box b8 (Zr.zc GNode) 48, .box b6 cs161 48, .row v52 3 1] w160 := hS
 refine ⟨fun h => Bool.noConfusion (show false = true from h), ?_⟩
 refine WB_done (by kernel_rfl) (nm_then ?_)
 exact ⟨M147, cs161, d167, v142, v147, hF125, hS, hb161, hp168, hp169, hp170, hT49_1, hT49_2, hT49_3, hT49_6, hT49_7, hT49_25, hT49_26, hT49_27, hz⟩
 intro v145 M145 w144 hx145 hv145 hS
 replace zb8 := Rep.mono hx145.1 zb8
 replace hv45 := repL.mono hx145.1 hv45
 replace hb83 := Rep.mono hx145.1 hb83
 replace hb104 := Rep.mono hx145.1 hb104
 replace hv131 := repL.mono hx145.1 hv131
 replace hv134 := repL.mono hx145.1 hv134
 replace hE := Mm.ext.trans hE hx145
 replace hF61 := Mm.ext.trans hF61 hx145
 replace hF76 := Mm.ext.trans hF76 hx145
 replace hF125 := Mm.ext.trans hF125 hx145
 replace hG127 := Mm.ext.trans hG127 hx145
 have hR178 : Rd M48 [.box b81 cs83 78, .box b6 cs104 48] w144 := Rd.of hS hG127 (by simp)
 refine ⟨fun _ => hR178, ?_⟩
 refine WB_one (i := 7) (by kernel_rfl) rfl (O_bslice (α := Int) (l := ([y58] : List Int)) [.int .i64 y58] tl27 (bpc rfl bp0) rfl rfl (by decide) (by decide) (by decide) hS (brc (show rep M145 [Value.int .i64 y58] (y58 : Int) from rfl) br0) ?_)
 intro v140 M140 w139 hx140 hv140 hS
 replace zb8 := Rep.mono hx140.1 zb8
 replace hv45 := repL.mono hx140.1 hv45
 replace hb83 := Rep.mono hx140.1 hb83
 replace hb104 := Rep.mono hx140.1 hb104
 replace hv131 := repL.mono hx140.1 hv131
 replace hv134 := repL.mono hx140.1 hv134
 replace hv145 := repL.mono hx140.1 hv145
 replace hE := Mm.ext.trans hE hx140
 replace hF61 := Mm.ext.trans hF61 hx140
 replace hF76 := Mm.ext.trans hF76 hx140
 replace hF125 := Mm.ext.trans hF125 hx140
 replace hG127 := Mm.ext.trans hG127 hx140
 have hR179 : Rd M48 [.box b81 cs83 78, .box b6 cs104 48] w139 := Rd.of hS hG127 (by simp)
 refine ⟨fun _ => hR179, ?_⟩
 obtain ⟨hy142, hs142⟩ := app_some hr142
 refine WB_one (i := 8) (by kernel_rfl) rfl (O_app (α := Int) (j := 2) tp27 hS rfl rfl rfl hv131 hv140 hy142 ?_)
 intro v142 M142 w141 hx142 hv142 hS
 rw [← hs142] at hv142
 clear hr142 hs142
 replace zb8 := Rep.mono hx142.1 zb8
 replace hv45 := repL.mono hx142.1 hv45
 replace hb83 := Rep.mono hx142.1 hb83
 replace hb104 := Rep.mono hx142.1 hb104
 replace hv131 := repL.mono hx142.1 hv131
 replace hv134 := repL.mono hx142.1 hv134
 replace hv145 := repL.mono hx142.1 hv145
 replace hv140 := repL.mono hx142.1 hv140
 replace hE := Mm.ext.trans hE hx142
 replace hF61 := Mm.ext.trans hF61 hx142
 replace hF76 := Mm.ext.trans hF76 hx142
 replace hF125 := Mm.ext.trans hF125 hx142
 replace hG127 := Mm.ext.trans hG127 hx142
 replace hS : St w (lentX [.row ux1_1 3 1]) M142 [.box b81 cs83 78, .row v56 3 1, .row v142 3 1, .box b8 (Zr.zc GNode) 48, .box b6 cs104 48, .row v52 3 1] w141 := hS
 have hR180 : Rd M48 [.box b81 cs83 78, .box b6 cs104 48] w141 := Rd.of hS hG127 (by simp)
 refine ⟨fun _ => hR180, ?_⟩
 obtain ⟨hy147, hs147⟩ := app_some hr147
 refine WB_one (i := 19) (by kernel_rfl) rfl (O_app (α := Int) (j := 1) tp27 hS rfl rfl rfl hv134 hv145 hy147 ?_)
 intro v147 M147 w146 hx147 hv147 hS
 rw [← hs147] at hv147
 clear hr147 hs147
 replace zb8 := Rep.mono hx147.1 zb8
 replace hv45 := repL.mono hx147.1 hv45
 replace hb83 := Rep.mono hx147.1 hb83
 replace hb104 := Rep.mono hx147.1 hb104
 replace hv131 := repL.mono hx147.1 hv131
 replace hv134 := repL.mono hx147.1 hv134
 replace hv145 := repL.mono hx147.1 hv145
 replace hv140 := repL.mono hx147.1 hv140
 replace hv142 := repL.mono hx147.1 hv142
 replace hE := Mm.ext.trans hE hx147
 replace hF61 := Mm.ext.trans hF61 hx147
 replace hF76 := Mm.ext.trans hF76 hx147
 replace hF125 := Mm.ext.trans hF125 hx147
 replace hG127 := Mm.ext.trans hG127 hx147
 replace hS : St w (lentX [.row ux1_1 3 1]) M147 [.box b81 cs83 78, .row v147 3 1, .row v142 3 1, .box b8 (Zr.zc GNode) 48, .box b6 cs104 48, .row v52 3 1] w146 := hS
 have hR181 : Rd M48 [.box b81 cs83 78, .box b6 cs104 48] w146 := Rd.of hS hG127 (by simp)
 refine ⟨fun _ => hR181, ?_⟩
 refine WB_y (i := 20) rfl (by kernel_rfl) rfl (Y_nil rfl) (fun _ => hR181) <|WB_y (i := 21) rfl (by kernel_rfl) rfl (Y_fa fa44_4 rfl) (fun _ => hR181) ?_
 have hw150 : ([v142] : List Value).length = 1 := Rep.len (repL_rep hv142)
 have hl150 : (cs104).length = 201 := Rep.len hb104
 have hq153 := (idxV_some hx152)
 have hb150 : rep M147 (pt cs104 (0 + 0 + Int.toNat x3 * 6 + 4) [v142]) d156 := rep_eq (rep_whole (k := 201) (by rw [pt_length (by omega)]; exact hl150) (GNode.s0 (rep_root (k := 201) rfl hb104) (vs (k := 6) rfl rfl (GNode.p0 (rep_root (k := 201) rfl hb104)) (GEntry.s4 (vp (k := 6) rfl rfl (GNode.p0 (rep_root (k := 201) rfl hb104)) hx152) (rep_leaf rfl (repL_rep hv142) (by omega)) (by omega) (by omega) (by omega)) hx155 (by omega) (by omega) (by omega)) (by omega) (by omega) (by omega))) hd150
 have hp157 : sl (pt cs104 (0 + 0 + Int.toNat x3 * 6 + 4) [v142]) (192) 1 = [v52] := (sl_pt_apart (by omega) (by omega)).trans hp111
 have hp158 : sl (pt cs104 (0 + 0 + Int.toNat x3 * 6 + 4) [v142]) (0 + 0 + Int.toNat x3 * 6 + 5) 1 = [v56] := (sl_pt_apart (by omega) (by omega)).trans hp113
 have hp159 : sl (pt cs104 (0 + 0 + Int.toNat x3 * 6 + 4) [v142]) (0 + 0 + Int.toNat x3 * 6 + 4) 1 = [v142] := sl_pt_same (by omega) rfl
 generalize hg150 : (pt cs104 (0 + 0 + Int.toNat x3 * 6 + 4) [v142]) = cs150 at hb150 hp157 hp158 hp159
 refine WB_one (i := 22) (by kernel_rfl) rfl (O_st (j := 4) (v := v142) (ws := [v142]) hS rfl (by kernel_rfl) rfl rfl (repL_cells hv142) hw150 (Rep.one (repL_rep hv142)) (by omega) ?_)
 rw [hg150]
 clear hg150
 intro w149 hS
 replace hS : St w (lentX [.row ux1_1 3 1]) M147 [.box b81 cs83 78, .row v147 3 1, .row v142 3 1, .box b8 (Zr.zc GNode) 48, .box b6 cs150 48, .row v52 3 1] w149 := hS
 refine ⟨fun h => Bool.noConfusion (show false = true from h), ?_⟩
 refine WB_y (i := 23) rfl (by kernel_rfl) rfl (Y_nil rfl) (fun h => Bool.noConfusion (show false = true from h)) <|WB_y (i := 24) rfl (by kernel_rfl) rfl (Y_fa fa44_5 rfl) (fun h => Bool.noConfusion (show false = true from h)) ?_
 have hw161 : ([v147] : List Value).length = 1 := Rep.len (repL_rep hv147)
 have hl161 : (cs150).length = 201 := Rep.len hb150
 have hq164 := (idxV_some hx163)
 have hb161 : rep M147 (pt cs150 (0 + 0 + Int.toNat x3 * 6 + 5) [v147]) d167 := rep_eq (rep_whole (k := 201) (by rw [pt_length (by omega)]; exact hl161) (GNode.s0 (rep_root (k := 201) rfl hb150) (vs (k := 6) rfl rfl (GNode.p0 (rep_root (k := 201) rfl hb150)) (GEntry.s5 (vp (k := 6) rfl rfl (GNode.p0 (rep_root (k := 201) rfl hb150)) hx163) (rep_leaf rfl (repL_rep hv147) (by omega)) (by omega) (by omega) (by omega)) hx166 (by omega) (by omega) (by omega)) (by omega) (by omega) (by omega))) hd161
 have hp168 : sl (pt cs150 (0 + 0 + Int.toNat x3 * 6 + 5) [v147]) (192) 1 = [v52] := (sl_pt_apart (by omega) (by omega)).trans hp157
 have hp169 : sl (pt cs150 (0 + 0 + Int.toNat x3 * 6 + 5) [v147]) (0 + 0 + Int.toNat x3 * 6 + 4) 1 = [v142] := (sl_pt_apart (by omega) (by omega)).trans hp159
 have hp170 : sl (pt cs150 (0 + 0 + Int.toNat x3 * 6 + 5) [v147]) (0 + 0 + Int.toNat x3 * 6 + 5) 1 = [v147] := sl_pt_same (by omega) rfl
 generalize hg161 : (pt cs150 (0 + 0 + Int.toNat x3 * 6 + 5) [v147]) = cs161 at hb161 hp168 hp169 hp170
 refine WB_one (i := 25) (by kernel_rfl) rfl (O_st (j := 4) (v := v147) (ws := [v147]) hS rfl (by kernel_rfl) rfl rfl (repL_cells hv147) hw161 (Rep.one (repL_rep hv147)) (by omega) ?_)
 rw [hg161]
 clear hg161
 intro w160 hS
 replace hS : St w (lentX [.row ux1_1 3 1]) M147 [.box b81 cs83 78, .row v147 3 1, .row v142 3 1, .box b8 (Zr.zc GNode) 48, .box b6 cs161 48, .row v52 3 1] w160 := hS
 refine ⟨fun h => Bool.noConfusion (show false = true from h), ?_⟩
 refine WB_done (by kernel_rfl) (nm_then ?_)
 exact ⟨M147, cs161, d167, v142, v147, hF125, hS, hb161, hp168, hp169, hp170, hT49_1, hT49_2, hT49_3, hT49_6, hT49_7, hT49_25, hT49_26, hT49_27, hz⟩
 rintro T116 w114 ⟨M115, cs117, d118, v120, v122, hx124, hS, hb117, hp119, hp121, hp123, hT116_1, hT116_2, hT116_3, hT116_6, hT116_7, hT116_25, hT116_26, hT116_27, hz⟩
 replace zb8 := Rep.mono hx124.1 zb8
 replace hv45 := repL.mono hx124.1 hv45
 replace hb83 := Rep.mono hx124.1 hb83
 replace hE := Mm.ext.trans hE hx124
 replace hF61 := Mm.ext.trans hF61 hx124
 replace hF76 := Mm.ext.trans hF76 hx124
 rw [nodeOne_j2] at hz
 refine (nm_blk ?_)
 refine (nm_then ?_)
 exact ⟨M115, cs117, d118, v52, v120, v122, hF76, (St.dropB hS hb81), hb117, hp119, hp121, hp123, hT116_1, hT116_2, hT116_3, hT116_6, hT116_7, hT116_25, hT116_26, hT116_27, hz⟩
 replace hz := bif_ok_f hz hc88
 refine W_skip (nm_blk ?_)
 refine (nm_then ?_)
 exact ⟨M48, cs50, d51, v52, v54, v56, hF76, (St.dropB hS hb81), hb50, hp53, hp55, hp57, hT49_1, hT49_2, hT49_3, hT49_6, hT49_7, hT49_25, hT49_26, hT49_27, hz⟩
 rintro T66 w64 ⟨M65, cs67, d68, v69, v71, v73, hx75, hS, hb67, hp70, hp72, hp74, hT66_1, hT66_2, hT66_3, hT66_6, hT66_7, hT66_25, hT66_26, hT66_27, hz⟩
 replace zb8 := Rep.mono hx75.1 zb8
 replace hv45 := repL.mono hx75.1 hv45
 replace hE := Mm.ext.trans hE hx75
 replace hF61 := Mm.ext.trans hF61 hx75
 rw [nodeOne_j1] at hz
 refine W_reg <|WL_y (Y_add hT66_27 rfl) <|WL_y (Y_move (.int .i64 (IntKind.wrap .i64 (y58 + 1))) rfl) ?_
 refine WL_nil (nm_then ?_)
 exact ⟨M65, cs67, d68, v69, v71, v73, (IntKind.wrap .i64 (y58 + 1)), hF61, hS, hb67, hp70, hp72, hp74, hT66_1, hT66_2, hT66_3, hT66_6, hT66_7, hT66_25, hT66_26, rfl, (by rw [← hrec59]; exact hz)⟩
 replace hz := bif_ok_f hz hc63
 refine W_exit <|ex_then <|ex_then <|ex_hit ?_
 refine (nm_then ?_)
 refine W_seq <|W_reg <|WL_y (Y_fa fa48_1 hT49_3) ?_
 obtain ⟨v182, ev182, hv182⟩ := (GNode.p1 (rep_root (k := 201) rfl hb50))
 rw [sl_one_eq ev182 hp53] at hv182
 refine WL_y (Y_ld1 v52 ts27 rfl (hS.bvB 3 rfl) hp53) <|WL_y (Y_move (.int .i64 x3) hT49_1) ?_
 refine WL_c (O_bslice (α := Int) (l := ([x3] : List Int)) [.int .i64 x3] tl27 (bpc rfl bp0) rfl rfl (by decide) (by decide) (by decide) hS (brc (show rep M48 [Value.int .i64 x3] (x3 : Int) from rfl) br0) ?_)
 intro v184 M184 w183 hx184 hv184 hS
 replace zb8 := Rep.mono hx184.1 zb8
 replace hb50 := Rep.mono hx184.1 hb50
 replace hv182 := repL.mono hx184.1 hv182
 replace hE := Mm.ext.trans hE hx184
 replace hF61 := Mm.ext.trans hF61 hx184
 obtain ⟨l187, hr186, hz⟩ := bind_ok hz
 obtain ⟨hy186, hs186⟩ := app_some hr186
 refine WL_c (O_app (α := Int) (j := 4) tp27 hS rfl rfl rfl hv182 hv184 hy186 ?_)
 intro v186 M186 w185 hx186 hv186 hS
 rw [← hs186] at hv186
 clear hr186 hs186
 replace zb8 := Rep.mono hx186.1 zb8
 replace hb50 := Rep.mono hx186.1 hb50
 replace hv182 := repL.mono hx186.1 hv182
 replace hv184 := repL.mono hx186.1 hv184
 replace hE := Mm.ext.trans hE hx186
 replace hF61 := Mm.ext.trans hF61 hx186
 replace hS : St w (lentX [.row ux1_1 3 1]) M186 [.row v56 3 1, .row v54 3 1, .box b8 (Zr.zc GNode) 48, .box b6 cs50 48, .row v186 3 1] w185 := hS
 refine WL_y (Y_fa fa48_1 hT49_3) ?_
 have hw189 : ([v186] : List Value).length = 1 := Rep.len (repL_rep hv186)
 have hl189 : (cs50).length = 201 := Rep.len hb50
 obtain ⟨d190, hd189, hz⟩ := bind_ok hz
 have hb189 : rep M186 (pt cs50 (0 + 192) [v186]) d190 := rep_eq (rep_whole (k := 201) (by rw [pt_length (by omega)]; exact hl189) (GNode.s1 (rep_root (k := 201) rfl hb50) (rep_leaf rfl (repL_rep hv186) (by omega)) (by omega) (by omega) (by omega))) hd189
 have hp191 : sl (pt cs50 (0 + 192) [v186]) (0 + 0 + Int.toNat x3 * 6 + 4) 1 = [v54] := (sl_pt_apart (by omega) (by omega)).trans hp55
 have hp192 : sl (pt cs50 (0 + 192) [v186]) (0 + 0 + Int.toNat x3 * 6 + 5) 1 = [v56] := (sl_pt_apart (by omega) (by omega)).trans hp57
 have hp193 : sl (pt cs50 (0 + 192) [v186]) (0 + 192) 1 = [v186] := sl_pt_same (by omega) rfl
 generalize hg189 : (pt cs50 (0 + 192) [v186]) = cs189 at hb189 hp191 hp192 hp193
 refine WL_c (O_st (j := 3) (v := v186) (ws := [v186]) hS rfl (by kernel_rfl) rfl rfl (repL_cells hv186) hw189 (Rep.one (repL_rep hv186)) (by omega) ?_)
 rw [hg189]
 clear hg189
 intro w188 hS
 replace hS : St w (lentX [.row ux1_1 3 1]) M186 [.row v56 3 1, .row v54 3 1, .box b8 (Zr.zc GNode) 48, .box b6 cs189 48, .row v186 3 1] w188 := hS
 refine WL_nil (nm_then ?_)
 refine W_seq <|W_reg ?_
 have ha194 := (rep_root (k := 201) rfl hb189)
 have hp195 : sl (sl cs189 (0) 201) 192 1 = [v186] := (sl_sub (by decide)).trans hp193
 refine WL_y (Y_ldn ta48 hT49_3 (hS.bvB 3 rfl) (Rep.len ha194)) ?_
 have hw197 : ((sl cs189 (0) 201) : List Value).length = 201 := Rep.len ha194
 have hl197 : ((Zr.zc GNode)).length = 201 := Rep.len zb8
 obtain ⟨d198, hd197, hz⟩ := bind_ok hz
 have hb197 : rep M186 (pt (Zr.zc GNode) (0) (sl cs189 (0) 201)) d198 := rep_eq (rep_whole (k := 201) (by rw [pt_length (by omega)]; exact hl197) (rep_leaf rfl ha194 (by omega))) hd197
 have hp199 : sl (pt (Zr.zc GNode) (0) (sl cs189 (0) 201)) (0 + 192) 1 = [v186] := (sl_pt_sub (by omega) (by omega)).trans hp195
 generalize hg197 : (pt (Zr.zc GNode) (0) (sl cs189 (0) 201)) = cs197 at hb197 hp199
 refine WL_c (O_st (j := 2) (v := .agg (sl cs189 (0) 201).toArray) (ws := (sl cs189 (0) 201)) hS rfl (by kernel_rfl) hT49_6 rfl rfl hw197 (Rep.one ha194) (by omega) ?_)
 rw [hg197]
 clear hg197
 intro w196 hS
 replace hS : St w (lentX [.row ux1_1 3 1]) M186 [.row v56 3 1, .row v54 3 1, .box b8 cs197 48, .box b6 cs189 48, .row v186 3 1] w196 := hS
 refine WL_nil (nm_then ?_)
 cases hz
 exact W_ret (R_c (j := 2) rfl hT49_6 (by rw [Rep.len hb197]; exact ta48) hS rfl ⟨_, M186, _, rfl, hE, (hS.sel (H' := [.row v186 3 1]) [4] (by decide) rfl), cs197, v186, rfl, rfl, hb197, hp199⟩)
def nodeExec_j1 (y32 : Int) (rec33 : GNode → Int → Option GNode) (d42 : GNode) : Option GNode :=
 rec33 d42 (IntKind.wrap .i64 (y32 + 1))
def nodeExec_j2 (y64 : Int) (rec65 : GNode → Int → Option GNode) (d74 : GNode) : Option GNode :=
 rec65 d74 (IntKind.wrap .i64 (y64 + 1))
def nodeExec_l2 (fu : Nat) (x2 : Int) (y32 : Int) (rec33 : GNode → Int → Option GNode) (r55 : (List Int)) : Nat → GNode → Int → Option GNode
 | 0, _, _ => none
 | n + 1, d61, y64 =>
 (bif decide (y64 < (r55.length : Int)) then
 (idx r55 y64).bind fun x80 =>
 (inR x80 32).bind fun _ =>
 (idxV d61.entries x80).bind fun x83 =>
 (bif x83.state == 2 then
 (nodeOneD fu d61 x80 x2).bind fun r90 =>
 (some r90).bind fun d93 =>
 nodeExec_j2 y64 (nodeExec_l2 fu x2 y32 rec33 r55 n) d93
 else
 nodeExec_j2 y64 (nodeExec_l2 fu x2 y32 rec33 r55 n) d61)
 else
 nodeExec_j1 y32 rec33 d61)
def nodeExec_l1 (fu : Nat) (x2 : Int) (d15 : GGraph) : Nat → GNode → Int → Option GNode
 | 0, _, _ => none
 | n + 1, d29, y32 =>
 (bif decide (y32 < 32) then
 (inR y32 32).bind fun _ =>
 (idxV d29.entries y32).bind fun x49 =>
 (bif x49.state != 2 then
 nodeExec_j1 y32 (nodeExec_l1 fu x2 d15 n) d29
 else
 (gorderD fu d15 y32).bind fun r55 =>
 nodeExec_l2 fu x2 y32 (nodeExec_l1 fu x2 d15 n) r55 fu d29 0)
 else
 (some d29).bind fun d99 =>
 some d99)
def nodeExecD (fu : Nat) (x1 : GNode) (x2 : Int) : Option GNode :=
 (nodeGraphD fu x1).bind fun r10 =>
 (some r10).bind fun d15 =>
 (cloneIntsD fu x1.order).bind fun r19 =>
 (some ({ x1 with order := r19 } : GNode)).bind fun d23 =>
 nodeExec_l1 fu x2 d15 fu d23 0
set_option maxRecDepth 100000 in
set_option maxHeartbeats 4000000 in
theorem nodeExec_ok {M : Mm} {w : World} {cx1 : List Value} {x1 : GNode} {x2 : Int} {fu : Nat} {r : GNode} (hA : Agree M w) (hcx1 : rep M cx1 x1) (hz : nodeExecD fu x1 x2 = some r) :
    Calls Try.prog 53 #[.agg cx1.toArray, .int .i64 x2] w (Gives M w (fun M' u => ∃ cs, u = .agg cs.toArray ∧ rep M' cs r)) := by
 refine calls_W Try.func53 rfl 45 rfl rfl (by kernel_rfl) fun T hT => ?_
 have hT_0 : T 0 = .agg cx1.toArray := hT 0
 have hT_1 : T 1 = .int .i64 x2 := hT 1
 clear hT
 have hE := Mm.ext.refl w.heap.size noX M
 have hS : St w noX M [] w := St.start hA
 rw [nodeExecD] at hz
 refine W_seq <|W_reg ?_
 refine WL_c (O_box (v := .agg cx1.toArray) (cs := cx1) hT_0 rfl hS ?_)
 intro b4 w3 hb4 hS
 replace hS : St w noX M [.box b4 cx1 48] w3 := hS
 refine WL_c (O_alloc tz48 hS ?_)
 intro b6 w5 hb6 hS
 replace hS : St w noX M [.box b6 (Zr.zc GNode) 48, .box b4 cx1 48] w5 := hS
 have zb6 : rep M (Zr.zc GNode) (Zr.zd : GNode) := Zr.zr
 refine WL_nil (nm_then ?_)
 refine W_seq <|W_reg ?_
 have ha7 := (rep_root (k := 201) rfl hcx1)
 refine WL_y (Y_ldn ta48 rfl (hS.bvB 1 rfl) (Rep.len ha7)) ?_
 obtain ⟨r10, hr9, hz⟩ := bind_ok hz
 refine WL_c (O_mem (vs := [.agg (sl cx1 (0) 201).toArray]) (rv := (fun M' u => ∃ cs, u = .agg cs.toArray ∧ rep M' cs r10)) cb31 (args1 rfl) hS (nodeGraph_ok hS.agree ha7 hr9) ?_)
 intro u9 M9 w8 hx9 hu9 hS
 obtain ⟨c9, hq9, f9⟩ := hu9
 subst hq9
 replace hcx1 := Rep.mono hx9.1 hcx1
 replace zb6 := Rep.mono hx9.1 zb6
 replace ha7 := Rep.mono hx9.1 ha7
 replace hE := Mm.ext.trans hE hx9
 refine WL_c (O_alloc tz64 hS ?_)
 intro b12 w11 hb12 hS
 replace hS : St w noX M9 [.box b12 (Zr.zc GGraph) 64, .box b6 (Zr.zc GNode) 48, .box b4 cx1 48] w11 := hS
 have zb12 : rep M9 (Zr.zc GGraph) (Zr.zd : GGraph) := Zr.zr
 have hw14 : (c9 : List Value).length = 64 := Rep.len f9
 have hl14 : ((Zr.zc GGraph)).length = 64 := Rep.len zb12
 obtain ⟨d15, hd14, hz⟩ := bind_ok hz
 have hb14 : rep M9 (pt (Zr.zc GGraph) (0) c9) d15 := rep_eq (rep_whole (k := 64) (by rw [pt_length (by omega)]; exact hl14) (rep_leaf rfl f9 (by omega))) hd14
 generalize hg14 : (pt (Zr.zc GGraph) (0) c9) = cs14 at hb14
 refine WL_c (O_st (j := 0) (v := .agg c9.toArray) (ws := c9) hS rfl (by kernel_rfl) rfl rfl rfl hw14 (Rep.one f9) (by omega) ?_)
 rw [hg14]
 clear hg14
 intro w13 hS
 replace hS : St w noX M9 [.box b12 cs14 64, .box b6 (Zr.zc GNode) 48, .box b4 cx1 48] w13 := hS
 refine WL_nil (nm_then ?_)
 refine W_seq <|W_reg <|WL_y (Y_fa fa48_1 rfl) ?_
 obtain ⟨v16, ev16, hv16⟩ := (GNode.p1 (rep_root (k := 201) rfl hcx1))
 refine WL_y (Y_ld1 v16 ts27 rfl (hS.bvB 2 rfl) ev16) ?_
 obtain ⟨r19, hr18, hz⟩ := bind_ok hz
 refine WL_c (O_lend (vs := [v16]) (L := []) (R := [.box b12 cs14 64, .box b6 (Zr.zc GNode) 48, .box b4 cx1 48]) (rv := (fun M' u L' => ∃ v0, u = v0 ∧ L' = [.row v0 3 1] ∧ repL M' v0 r19)) cb50 (args1 rfl) hS (hS.sel [0, 1, 2] (by decide) rfl) (fun hS => cloneInts_ok hS.agree hv16 hr18) ?_)
 rintro u18 M18 w17 L18 hx18 ⟨v0_18, rfl, hL18, f18_0⟩ hS
 replace hS := hS _ hL18
 replace hcx1 := Rep.mono hx18.1 hcx1
 replace zb6 := Rep.mono hx18.1 zb6
 replace hb14 := Rep.mono hx18.1 hb14
 replace hv16 := repL.mono hx18.1 hv16
 replace hE := Mm.ext.trans hE hx18
 replace hS : St w noX M18 [.row u18 3 1, .box b12 cs14 64, .box b6 (Zr.zc GNode) 48, .box b4 cx1 48] w17 := hS
 refine WL_y (Y_fa fa48_1 rfl) ?_
 have hw22 : ([u18] : List Value).length = 1 := Rep.len (repL_rep f18_0)
 have hl22 : (cx1).length = 201 := Rep.len hcx1
 obtain ⟨d23, hd22, hz⟩ := bind_ok hz
 have hb22 : rep M18 (pt cx1 (0 + 192) [u18]) d23 := rep_eq (rep_whole (k := 201) (by rw [pt_length (by omega)]; exact hl22) (GNode.s1 (rep_root (k := 201) rfl hcx1) (rep_leaf rfl (repL_rep f18_0) (by omega)) (by omega) (by omega) (by omega))) hd22
 have hp24 : sl (pt cx1 (0 + 192) [u18]) (0 + 192) 1 = [u18] := sl_pt_same (by omega) rfl
 generalize hg22 : (pt cx1 (0 + 192) [u18]) = cs22 at hb22 hp24
 refine WL_c (O_st (j := 3) (v := u18) (ws := [u18]) hS rfl (by kernel_rfl) rfl rfl (repL_cells f18_0) hw22 (Rep.one (repL_rep f18_0)) (by omega) ?_)
 rw [hg22]
 clear hg22
 intro w21 hS
 replace hS : St w noX M18 [.row u18 3 1, .box b12 cs14 64, .box b6 (Zr.zc GNode) 48, .box b4 cs22 48] w21 := hS
 refine WL_nil (nm_then ?_)
 refine W_seq <|W_seq <|W_reg <|WL_y (Y_move (.int .i64 0) rfl) ?_
 refine WL_nil (nm_then ?_)
 refine W_block ?_
 refine W_loop (fun k34 T' w' => ∃ M26 cs28 d29 v30 y32, Mm.ext w.heap.size noX M18 M26 ∧ St w noX M26 [.row v30 3 1, .box b12 cs14 64, .box b6 (Zr.zc GNode) 48, .box b4 cs28 48] w' ∧ rep M26 cs28 d29 ∧ sl cs28 (0 + 192) 1 = [v30] ∧ T' 1 = .int .i64 x2 ∧ T' 2 = .pointer (some ⟨b4, 0, none⟩) ∧ T' 4 = .pointer (some ⟨b6, 0, none⟩) ∧ T' 5 = .pointer (some ⟨b12, 0, none⟩) ∧ T' 15 = .int .i64 y32 ∧ nodeExec_l1 fu x2 d15 k34 d29 y32 = some r) fu ?_ ?_ ?_
 exact ⟨M18, cs22, d23, u18, (0 : Int), (Mm.ext.refl _ _ _), hS, hb22, hp24, hT_1, rfl, rfl, rfl, rfl, hz⟩
 rintro T' w' ⟨_, _, _, _, _, _, _, _, _, _, _, _, _, _, hz⟩
 rw [nodeExec_l1] at hz
 cases hz
 intro k34
 rintro T27 w25 ⟨M26, cs28, d29, v30, y32, hx36, hS, hb28, hp31, hT27_1, hT27_2, hT27_4, hT27_5, hT27_15, hz⟩
 replace zb6 := Rep.mono hx36.1 zb6
 replace hb14 := Rep.mono hx36.1 hb14
 replace hE := Mm.ext.trans hE hx36
 have hF35 := hx36
 rw [nodeExec_l1] at hz
 obtain ⟨rec33, hrec33⟩ : ∃ f, f = nodeExec_l1 fu x2 d15 k34 := ⟨_, rfl⟩
 rw [← hrec33] at hz
 refine W_seq <|W_reg <|WL_y (Y_lss hT27_15 rfl) ?_
 refine WL_nil (nm_then ?_)
 refine W_seq ?_
 refine W_cond rfl (fun hc37 => ?_) (fun hc37 => ?_)
 replace hz := bif_ok_t hz hc37
 refine W_skip (nm_then ?_)
 refine W_seqJ (fun T' w' => ∃ M39 cs41 d42 v43, Mm.ext w.heap.size noX M26 M39 ∧ St w noX M39 [.row v43 3 1, .box b12 cs14 64, .box b6 (Zr.zc GNode) 48, .box b4 cs41 48] w' ∧ rep M39 cs41 d42 ∧ sl cs41 (0 + 192) 1 = [v43] ∧ T' 1 = .int .i64 x2 ∧ T' 2 = .pointer (some ⟨b4, 0, none⟩) ∧ T' 4 = .pointer (some ⟨b6, 0, none⟩) ∧ T' 5 = .pointer (some ⟨b12, 0, none⟩) ∧ T' 15 = .int .i64 y32 ∧ nodeExec_j1 y32 rec33 d42 = some r) ?_ ?_
 have hF46 := Mm.ext.refl w.heap.size noX M26
 refine W_block <|W_seq <|W_reg <|WL_y (Y_move (.int .i64 y32) hT27_15) <|WL_y (Y_assign (.int .i64 y32) rfl) ?_
 refine WL_nil (nm_then ?_)
 refine W_seq <|W_seq <|W_reg <|WL_y (Y_move (.int .i64 y32) rfl) <|WL_y (Y_fa fa48_0 hT27_2) ?_
 obtain ⟨u47, hx48, hz⟩ := bind_ok hz
 obtain ⟨hx48a, hx48b⟩ := inR_some hx48
 refine WL_y (Y_ixA ia45 rfl rfl hx48a hx48b) <|WL_y (Y_fa fa44_0 rfl) ?_
 obtain ⟨x49, hx50, hz⟩ := bind_ok hz
 refine WL_y (Y_ld1 (.int .i64 x49.state) ts3 rfl (hS.bvB 3 rfl) (GEntry.p0 (vp (k := 6) rfl rfl (GNode.p0 (rep_root (k := 201) rfl hb28)) hx50))) <|WL_y (Y_neq rfl rfl) ?_
 refine WL_nil (nm_then ?_)
 refine W_cond rfl (fun hc51 => ?_) (fun hc51 => ?_)
 replace hz := bif_ok_t hz hc51
 refine W_exit <|ex_then <|ex_hit ?_
 refine (nm_then ?_)
 exact ⟨M26, cs28, d29, v30, hF46, hS, hb28, hp31, hT27_1, hT27_2, hT27_4, hT27_5, hT27_15, hz⟩
 replace hz := bif_ok_f hz hc51
 refine W_skip (nm_then ?_)
 refine W_seq <|W_reg ?_
 have ha52 := (rep_root (k := 64) rfl hb14)
 refine WL_y (Y_ldn ta64 hT27_5 (hS.bvB 1 rfl) (Rep.len ha52)) <|WL_y (Y_move (.int .i64 y32) rfl) ?_
 obtain ⟨r55, hr54, hz⟩ := bind_ok hz
 refine WL_c (O_mem (vs := [.agg (sl cs14 (0) 64).toArray, .int .i64 y32]) (rv := (fun M' u => repL M' u r55)) cb73 (args2 rfl rfl) hS (gorder_ok hS.agree ha52 hr54) ?_)
 intro u54 M54 w53 hx54 hu54 hS
 have f54 : repL M54 u54 r55 := hu54
 replace zb6 := Rep.mono hx54.1 zb6
 replace hb14 := Rep.mono hx54.1 hb14
 replace hb28 := Rep.mono hx54.1 hb28
 replace ha52 := Rep.mono hx54.1 ha52
 replace hE := Mm.ext.trans hE hx54
 replace hF35 := Mm.ext.trans hF35 hx54
 replace hF46 := Mm.ext.trans hF46 hx54
 obtain ⟨a56, c56, hv56, _⟩ := repL_shape f54
 refine WL_y (Y_lenL Try.underlying27 (tr2 hv56 rfl)) <|WL_y (Y_move (.int .i64 0) rfl) ?_
 refine WL_nil (nm_then ?_)
 refine W_block ?_
 refine W_loop (fun k66 T' w' => ∃ M58 cs60 d61 v62 y64, Mm.ext w.heap.size noX M54 M58 ∧ St w noX M58 [.row v62 3 1, .box b12 cs14 64, .box b6 (Zr.zc GNode) 48, .box b4 cs60 48] w' ∧ rep M58 cs60 d61 ∧ sl cs60 (0 + 192) 1 = [v62] ∧ T' 1 = .int .i64 x2 ∧ T' 2 = .pointer (some ⟨b4, 0, none⟩) ∧ T' 4 = .pointer (some ⟨b6, 0, none⟩) ∧ T' 5 = .pointer (some ⟨b12, 0, none⟩) ∧ T' 15 = .int .i64 y32 ∧ T' 26 = u54 ∧ T' 27 = .int .i64 (r55.length : Int) ∧ T' 28 = .int .i64 y64 ∧ nodeExec_l2 fu x2 y32 rec33 r55 k66 d61 y64 = some r) fu ?_ ?_ ?_
 exact ⟨M54, cs28, d29, v30, (0 : Int), (Mm.ext.refl _ _ _), hS, hb28, hp31, hT27_1, hT27_2, hT27_4, hT27_5, hT27_15, rfl, rfl, rfl, hz⟩
 rintro T' w' ⟨_, _, _, _, _, _, _, _, _, _, _, _, _, _, _, _, _, hz⟩
 rw [nodeExec_l2] at hz
 cases hz
 intro k66
 rintro T59 w57 ⟨M58, cs60, d61, v62, y64, hx68, hS, hb60, hp63, hT59_1, hT59_2, hT59_4, hT59_5, hT59_15, hT59_26, hT59_27, hT59_28, hz⟩
 replace zb6 := Rep.mono hx68.1 zb6
 replace hb14 := Rep.mono hx68.1 hb14
 replace f54 := repL.mono hx68.1 f54
 replace hE := Mm.ext.trans hE hx68
 replace hF35 := Mm.ext.trans hF35 hx68
 replace hF46 := Mm.ext.trans hF46 hx68
 have hF67 := hx68
 rw [nodeExec_l2] at hz
 obtain ⟨rec65, hrec65⟩ : ∃ f, f = nodeExec_l2 fu x2 y32 rec33 r55 k66 := ⟨_, rfl⟩
 rw [← hrec65] at hz
 refine W_seq <|W_reg <|WL_y (Y_lss hT59_28 hT59_27) ?_
 refine WL_nil (nm_then ?_)
 refine W_seq ?_
 refine W_cond rfl (fun hc69 => ?_) (fun hc69 => ?_)
 replace hz := bif_ok_t hz hc69
 refine W_skip (nm_then ?_)
 refine W_seqJ (fun T' w' => ∃ M71 cs73 d74 v75, Mm.ext w.heap.size noX M58 M71 ∧ St w noX M71 [.row v75 3 1, .box b12 cs14 64, .box b6 (Zr.zc GNode) 48, .box b4 cs73 48] w' ∧ rep M71 cs73 d74 ∧ sl cs73 (0 + 192) 1 = [v75] ∧ T' 1 = .int .i64 x2 ∧ T' 2 = .pointer (some ⟨b4, 0, none⟩) ∧ T' 4 = .pointer (some ⟨b6, 0, none⟩) ∧ T' 5 = .pointer (some ⟨b12, 0, none⟩) ∧ T' 15 = .int .i64 y32 ∧ T' 26 = u54 ∧ T' 27 = .int .i64 (r55.length : Int) ∧ T' 28 = .int .i64 y64 ∧ nodeExec_j2 y64 rec65 d74 = some r) ?_ ?_
 have hF78 := Mm.ext.refl w.heap.size noX M58
 refine W_block <|W_seq <|W_reg ?_
 obtain ⟨x80, hx79, hz⟩ := bind_ok hz
 obtain ⟨b79, o79, c79, p79, hv79, hi79, hj79, hM79, hr79⟩ := repL_at f54 hx79
 replace hr79 : rep _ (sl p79 (o79 + Int.toNat y64 * 1) 1) x80 := hr79
 refine WL_y (Y_ixL il27 hT59_26 hv79 hT59_28 hi79 hj79) <|WL_y (Y_ld1 (.int .i64 x80) ts3 rfl (hS.bvM hM79) hr79) <|WL_y (Y_assign (.int .i64 x80) rfl) ?_
 refine WL_nil (nm_then ?_)
 refine W_seq <|W_reg <|WL_y (Y_move (.int .i64 x80) rfl) <|WL_y (Y_fa fa48_0 hT59_2) ?_
 obtain ⟨u81, hx82, hz⟩ := bind_ok hz
 obtain ⟨hx82a, hx82b⟩ := inR_some hx82
 refine WL_y (Y_ixA ia45 rfl rfl hx82a hx82b) <|WL_y (Y_fa fa44_0 rfl) ?_
 obtain ⟨x83, hx84, hz⟩ := bind_ok hz
 refine WL_y (Y_ld1 (.int .i64 x83.state) ts3 rfl (hS.bvB 3 rfl) (GEntry.p0 (vp (k := 6) rfl rfl (GNode.p0 (rep_root (k := 201) rfl hb60)) hx84))) <|WL_y (Y_eql rfl rfl) ?_
 refine WL_nil (nm_then ?_)
 refine W_cond rfl (fun hc85 => ?_) (fun hc85 => ?_)
 replace hz := bif_ok_t hz hc85
 refine W_reg ?_
 have ha86 := (rep_root (k := 201) rfl hb60)
 have hp87 : sl (sl cs60 (0) 201) 192 1 = [v62] := (sl_sub (by decide)).trans hp63
 refine WL_y (Y_ldn ta48 hT59_2 (hS.bvB 3 rfl) (Rep.len ha86)) <|WL_y (Y_move (.int .i64 x80) rfl) <|WL_y (Y_move (.int .i64 x2) hT59_1) ?_
 obtain ⟨r90, hr89, hz⟩ := bind_ok hz
 refine WL_c (O_lend (vs := [.agg (sl cs60 (0) 201).toArray, .int .i64 x80, .int .i64 x2]) (L := [.row v62 3 1]) (R := [.box b12 cs14 64, .box b6 (Zr.zc GNode) 48, .box b4 cs60 48]) (rv := (fun M' u L' => ∃ c0 u0, u = .agg c0.toArray ∧ L' = [.row u0 3 1] ∧ rep M' c0 r90 ∧ sl c0 192 1 = [u0])) cb74 (args3 rfl rfl rfl) hS (hS.sel [0, 1, 2, 3] (by decide) rfl) (fun hS => nodeOne_ok hS ha86 hp87 hr89) ?_)
 rintro u89 M89 w88 L89 hx89 ⟨c0_89, u0_89, rfl, hL89, f89_0, f89_1⟩ hS
 replace hS := hS _ hL89
 replace zb6 := Rep.mono hx89.1 zb6
 replace hb14 := Rep.mono hx89.1 hb14
 replace f54 := repL.mono hx89.1 f54
 replace hb60 := Rep.mono hx89.1 hb60
 replace ha86 := Rep.mono hx89.1 ha86
 replace hE := Mm.ext.trans hE hx89
 replace hF35 := Mm.ext.trans hF35 hx89
 replace hF46 := Mm.ext.trans hF46 hx89
 replace hF67 := Mm.ext.trans hF67 hx89
 replace hF78 := Mm.ext.trans hF78 hx89
 replace hS : St w noX M89 [.row u0_89 3 1, .box b12 cs14 64, .box b6 (Zr.zc GNode) 48, .box b4 cs60 48] w88 := hS
 have hw92 : (c0_89 : List Value).length = 201 := Rep.len f89_0
 have hl92 : (cs60).length = 201 := Rep.len hb60
 obtain ⟨d93, hd92, hz⟩ := bind_ok hz
 have hb92 : rep M89 (pt cs60 (0) c0_89) d93 := rep_eq (rep_whole (k := 201) (by rw [pt_length (by omega)]; exact hl92) (rep_leaf rfl f89_0 (by omega))) hd92
 have hp94 : sl (pt cs60 (0) c0_89) (0 + 192) 1 = [u0_89] := (sl_pt_sub (by omega) (by omega)).trans f89_1
 generalize hg92 : (pt cs60 (0) c0_89) = cs92 at hb92 hp94
 refine WL_c (O_st (j := 3) (v := .agg c0_89.toArray) (ws := c0_89) hS rfl (by kernel_rfl) hT59_2 rfl rfl hw92 (Rep.one f89_0) (by omega) ?_)
 rw [hg92]
 clear hg92
 intro w91 hS
 replace hS : St w noX M89 [.row u0_89 3 1, .box b12 cs14 64, .box b6 (Zr.zc GNode) 48, .box b4 cs92 48] w91 := hS
 refine WL_nil (nm_blk ?_)
 refine (nm_then ?_)
 exact ⟨M89, cs92, d93, u0_89, hF78, hS, hb92, hp94, hT59_1, hT59_2, hT59_4, hT59_5, hT59_15, hT59_26, hT59_27, hT59_28, hz⟩
 replace hz := bif_ok_f hz hc85
 refine W_skip (nm_blk ?_)
 refine (nm_then ?_)
 exact ⟨M58, cs60, d61, v62, hF78, hS, hb60, hp63, hT59_1, hT59_2, hT59_4, hT59_5, hT59_15, hT59_26, hT59_27, hT59_28, hz⟩
 rintro T72 w70 ⟨M71, cs73, d74, v75, hx77, hS, hb73, hp76, hT72_1, hT72_2, hT72_4, hT72_5, hT72_15, hT72_26, hT72_27, hT72_28, hz⟩
 replace zb6 := Rep.mono hx77.1 zb6
 replace hb14 := Rep.mono hx77.1 hb14
 replace f54 := repL.mono hx77.1 f54
 replace hE := Mm.ext.trans hE hx77
 replace hF35 := Mm.ext.trans hF35 hx77
 replace hF46 := Mm.ext.trans hF46 hx77
 replace hF67 := Mm.ext.trans hF67 hx77
 rw [nodeExec_j2] at hz
 refine W_reg <|WL_y (Y_add hT72_28 rfl) <|WL_y (Y_move (.int .i64 (IntKind.wrap .i64 (y64 + 1))) rfl) ?_
 refine WL_nil (nm_then ?_)
 exact ⟨M71, cs73, d74, v75, (IntKind.wrap .i64 (y64 + 1)), hF67, hS, hb73, hp76, hT72_1, hT72_2, hT72_4, hT72_5, hT72_15, hT72_26, hT72_27, rfl, (by rw [← hrec65]; exact hz)⟩
 replace hz := bif_ok_f hz hc69
 refine W_exit <|ex_then <|ex_then <|ex_hit ?_
 refine (nm_blk ?_)
 refine (nm_then ?_)
 exact ⟨M58, cs60, d61, v62, hF46, hS, hb60, hp63, hT59_1, hT59_2, hT59_4, hT59_5, hT59_15, hz⟩
 rintro T40 w38 ⟨M39, cs41, d42, v43, hx45, hS, hb41, hp44, hT40_1, hT40_2, hT40_4, hT40_5, hT40_15, hz⟩
 replace zb6 := Rep.mono hx45.1 zb6
 replace hb14 := Rep.mono hx45.1 hb14
 replace hE := Mm.ext.trans hE hx45
 replace hF35 := Mm.ext.trans hF35 hx45
 rw [nodeExec_j1] at hz
 refine W_reg <|WL_y (Y_add hT40_15 rfl) <|WL_y (Y_move (.int .i64 (IntKind.wrap .i64 (y32 + 1))) rfl) ?_
 refine WL_nil (nm_then ?_)
 exact ⟨M39, cs41, d42, v43, (IntKind.wrap .i64 (y32 + 1)), hF35, hS, hb41, hp44, hT40_1, hT40_2, hT40_4, hT40_5, rfl, (by rw [← hrec33]; exact hz)⟩
 replace hz := bif_ok_f hz hc37
 refine W_exit <|ex_then <|ex_then <|ex_hit ?_
 refine (nm_then ?_)
 refine W_seq <|W_reg ?_
 have ha95 := (rep_root (k := 201) rfl hb28)
 have hp96 : sl (sl cs28 (0) 201) 192 1 = [v30] := (sl_sub (by decide)).trans hp31
 refine WL_y (Y_ldn ta48 hT27_2 (hS.bvB 3 rfl) (Rep.len ha95)) ?_
 have hw98 : ((sl cs28 (0) 201) : List Value).length = 201 := Rep.len ha95
 have hl98 : ((Zr.zc GNode)).length = 201 := Rep.len zb6
 obtain ⟨d99, hd98, hz⟩ := bind_ok hz
 have hb98 : rep M26 (pt (Zr.zc GNode) (0) (sl cs28 (0) 201)) d99 := rep_eq (rep_whole (k := 201) (by rw [pt_length (by omega)]; exact hl98) (rep_leaf rfl ha95 (by omega))) hd98
 have hp100 : sl (pt (Zr.zc GNode) (0) (sl cs28 (0) 201)) (0 + 192) 1 = [v30] := (sl_pt_sub (by omega) (by omega)).trans hp96
 generalize hg98 : (pt (Zr.zc GNode) (0) (sl cs28 (0) 201)) = cs98 at hb98 hp100
 refine WL_c (O_st (j := 2) (v := .agg (sl cs28 (0) 201).toArray) (ws := (sl cs28 (0) 201)) hS rfl (by kernel_rfl) hT27_4 rfl rfl hw98 (Rep.one ha95) (by omega) ?_)
 rw [hg98]
 clear hg98
 intro w97 hS
 replace hS : St w noX M26 [.row v30 3 1, .box b12 cs14 64, .box b6 cs98 48, .box b4 cs28 48] w97 := hS
 refine WL_nil (nm_then ?_)
 cases hz
 exact W_ret (R_c (j := 2) rfl hT27_4 (by rw [Rep.len hb98]; exact ta48) hS rfl (Gives.mk (St.dropB (St.dropB (St.dropB (St.drop hS) hb12) hb6) hb4) hE ⟨_, rfl, hb98⟩))
def nodeTake_j3 (d50 : GNode) (l51 : List GFrame) (y53 : Int) : Option (GNode × (List GFrame) × Int) :=
 some (d50, l51, y53)
def nodeTake_j2 (x2 : Int) (x3 : GFrame) (d44 : GNode) : Option (GNode × (List GFrame) × Int) :=
 (idxV d44.entries x3.id).bind fun x60 =>
 (some ({ kind := 2, node := x2, id := x3.id, ops := Zr.zd, deps := x60.first, at_ := Zr.zd, vals := Zr.zd } : GFrame)).bind fun d64 =>
 (some d44).bind fun d69 =>
 nodeTake_j3 d69 ([d64] : List GFrame) 0
def nodeTake_j5 (d103 : GNode) (l113 : List GFrame) : Option (GNode × (List GFrame) × Int) :=
 (some d103).bind fun d119 =>
 some (d119, l113, 0)
def nodeTake_j6 (x2 : Int) (x3 : GFrame) (d103 : GNode) (d106 : GFrame) (d130 : GEntry) (c134 : Bool) : Option (GNode × (List GFrame) × Int) :=
 (bif c134 then
 (some ({ kind := 5, node := x2, id := x3.id, ops := Zr.zd, deps := Zr.zd, at_ := d130.at_, vals := d130.values } : GFrame)).bind fun d140 =>
 (app ([d106] : List GFrame) ([d140] : List GFrame)).bind fun l145 =>
 nodeTake_j5 d103 l145
 else
 nodeTake_j5 d103 ([d106] : List GFrame))
def nodeTake_j4 (x2 : Int) (x3 : GFrame) (r27 : Int) (d103 : GNode) : Option (GNode × (List GFrame) × Int) :=
 (some ({ kind := 4, node := x2, id := x3.id, ops := Zr.zd, deps := Zr.zd, at_ := Zr.zd, vals := Zr.zd } : GFrame)).bind fun d106 =>
 (inR x3.id 32).bind fun _ =>
 (idxV d103.entries x3.id).bind fun x123 =>
 (some x123).bind fun d130 =>
 (bif d130.state == 3 then
 (some (touchesZ d130.ops r27)).bind fun r151 =>
 nodeTake_j6 x2 x3 d103 d106 d130 r151
 else
 nodeTake_j6 x2 x3 d103 d106 d130 false)
def nodeTake_j7 (fu : Nat) (x2 : Int) (x3 : GFrame) (r27 : Int) (d160 : GNode) : Option (GNode × (List GFrame) × Int) :=
 (idxV d160.entries x3.id).bind fun x169 =>
 (setV d160.entries x3.id ({ x169 with state := 2 })).bind fun a172 =>
 (some ({ d160 with entries := a172 } : GNode)).bind fun d174 =>
 (idxV d174.entries x3.id).bind fun x178 =>
 (setV d174.entries x3.id ({ x178 with ops := x3.ops })).bind fun a181 =>
 (some ({ d174 with entries := a181 } : GNode)).bind fun d183 =>
 (idxV d183.entries x3.id).bind fun x187 =>
 (setV d183.entries x3.id ({ x187 with deps := x3.deps })).bind fun a190 =>
 (some ({ d183 with entries := a190 } : GNode)).bind fun d192 =>
 (nodeExecD fu d192 r27).bind fun r197 =>
 (some r197).bind fun d200 =>
 nodeTake_j4 x2 x3 r27 d200
def nodeTake_j1 (fu : Nat) (x1 : GNode) (x2 : Int) (x3 : GFrame) (d14 : GNode) : Option (GNode × (List GFrame) × Int) :=
 (some (frameZ x3)).bind fun r19 =>
 (bif r19 != 0 then
 (some x1).bind fun d24 =>
 some (d24, [], r19)
 else
 (some (ofZ x2)).bind fun r27 =>
 (inR x3.id 32).bind fun _ =>
 (bif x3.kind == 1 then
 (some (touchesZ x3.ops r27)).bind fun r34 =>
 (bif !r34 then
 (some x1).bind fun d39 =>
 some (d39, [], 4)
 else
 (idxV x1.entries x3.id).bind fun x75 =>
 (bif x75.state == 0 then
 (nodeAheadD fu x1 x3.id x3.ops r27).bind fun r86 =>
 (some ({ state := 1, ops := x3.ops, first := r86, deps := Zr.zd, at_ := Zr.zd, values := Zr.zd } : GEntry)).bind fun d89 =>
 (idxV x1.entries x3.id).bind fun x92 =>
 (setV x1.entries x3.id d89).bind fun a95 =>
 (some ({ x1 with entries := a95 } : GNode)).bind fun d97 =>
 nodeTake_j2 x2 x3 d97
 else
 nodeTake_j2 x2 x3 x1))
 else
 (bif x3.kind == 3 then
 (idxV x1.entries x3.id).bind fun x153 =>
 (bif decide (x153.state < 2) then
 (idxV x1.entries x3.id).bind fun x202 =>
 (bif x202.state == 0 then
 (nodeAheadD fu x1 x3.id x3.ops r27).bind fun r209 =>
 (idxV x1.entries x3.id).bind fun x212 =>
 (setV x1.entries x3.id ({ x212 with first := r209 })).bind fun a215 =>
 (some ({ x1 with entries := a215 } : GNode)).bind fun d217 =>
 nodeTake_j7 fu x2 x3 r27 d217
 else
 nodeTake_j7 fu x2 x3 r27 x1)
 else
 nodeTake_j4 x2 x3 r27 x1)
 else
 (some x1).bind fun d221 =>
 some (d221, [], 3))))
def nodeTake_j8 (fu : Nat) (x1 : GNode) (x2 : Int) (x3 : GFrame) (c226 : Bool) : Option (GNode × (List GFrame) × Int) :=
 (bif c226 then
 (some x1).bind fun d232 =>
 some (d232, [], 2)
 else
 nodeTake_j1 fu x1 x2 x3 (Zr.zd : GNode))
def nodeTakeD (fu : Nat) (x1 : GNode) (x2 : Int) (x3 : GFrame) : Option (GNode × (List GFrame) × Int) :=
 (nodeGoodD fu x1).bind fun r237 =>
 (bif !r237 then
 nodeTake_j8 fu x1 x2 x3 true
 else
 (nodeIsD fu x2).bind fun r241 =>
 (bif !r241 then
 nodeTake_j8 fu x1 x2 x3 true
 else
 nodeTake_j8 fu x1 x2 x3 (x3.node != x2)))
set_option maxRecDepth 100000 in
set_option maxHeartbeats 4000000 in
theorem nodeTake_ok {M : Mm} {w : World} {cx1 : List Value} {cx3 : List Value} {x1 : GNode} {x2 : Int} {x3 : GFrame} {fu : Nat} {r : GNode × (List GFrame) × Int} (hA : Agree M w) (hcx1 : rep M cx1 x1) (hcx3 : rep M cx3 x3) (hz : nodeTakeD fu x1 x2 x3 = some r) :
    Calls Try.prog 17 #[.agg cx1.toArray, .int .i64 x2, .agg cx3.toArray] w (Gives M w (fun M' u => ∃ c0 v1, u = .tuple #[.agg c0.toArray, v1, .int .i64 r.2.2] ∧ rep M' c0 r.1 ∧ repL M' v1 r.2.1)) := by
 refine calls_W Try.func17 rfl 149 rfl rfl (by kernel_rfl) fun T hT => ?_
 have hT_0 : T 0 = .agg cx1.toArray := hT 0
 have hT_1 : T 1 = .int .i64 x2 := hT 1
 have hT_2 : T 2 = .agg cx3.toArray := hT 2
 clear hT
 have hE := Mm.ext.refl w.heap.size noX M
 have hS : St w noX M [] w := St.start hA
 rw [nodeTakeD] at hz
 refine W_seq <|W_reg ?_
 refine WL_c (O_box (v := .agg cx1.toArray) (cs := cx1) hT_0 rfl hS ?_)
 intro b5 w4 hb5 hS
 replace hS : St w noX M [.box b5 cx1 48] w4 := hS
 refine WL_c (O_box (v := .agg cx3.toArray) (cs := cx3) hT_2 rfl hS ?_)
 intro b7 w6 hb7 hS
 replace hS : St w noX M [.box b7 cx3 38, .box b5 cx1 48] w6 := hS
 refine WL_c (O_alloc tz48 hS ?_)
 intro b9 w8 hb9 hS
 replace hS : St w noX M [.box b9 (Zr.zc GNode) 48, .box b7 cx3 38, .box b5 cx1 48] w8 := hS
 have zb9 : rep M (Zr.zc GNode) (Zr.zd : GNode) := Zr.zr
 refine WL_d 2 rfl ?_
 refine WL_nil (nm_then ?_)
 refine W_seqJ (fun T' w' => ∃ M11 cs13 d14, Mm.ext w.heap.size noX M M11 ∧ St w noX M11 [.box b9 cs13 48, .box b7 cx3 38, .box b5 cx1 48] w' ∧ rep M11 cs13 d14 ∧ T' 1 = .int .i64 x2 ∧ T' 3 = .pointer (some ⟨b5, 0, none⟩) ∧ T' 5 = .pointer (some ⟨b7, 0, none⟩) ∧ T' 6 = .pointer (some ⟨b9, 0, none⟩) ∧ nodeTake_j1 fu x1 x2 x3 d14 = some r) ?_ ?_
 have hF222 := Mm.ext.refl w.heap.size noX M
 refine W_seqJ (fun T' w' => ∃ M224 c226, Mm.ext w.heap.size noX M M224 ∧ St w noX M224 [.box b9 (Zr.zc GNode) 48, .box b7 cx3 38, .box b5 cx1 48] w' ∧ T' 1 = .int .i64 x2 ∧ T' 3 = .pointer (some ⟨b5, 0, none⟩) ∧ T' 5 = .pointer (some ⟨b7, 0, none⟩) ∧ T' 6 = .pointer (some ⟨b9, 0, none⟩) ∧ T' 27 = .bool c226 ∧ nodeTake_j8 fu x1 x2 x3 c226 = some r) ?_ ?_
 have hF233 := Mm.ext.refl w.heap.size noX M
 refine W_reg ?_
 have ha234 := (rep_root (k := 201) rfl hcx1)
 refine WL_y (Y_ldn ta48 rfl (hS.bvB 2 rfl) (Rep.len ha234)) ?_
 obtain ⟨r237, hr236, hz⟩ := bind_ok hz
 refine WL_c (O_val (vs := [.agg (sl cx1 (0) 201).toArray]) (v := .bool r237) cb21 (args1 rfl) hS (nodeGood_ok hS.agree ha234 hr236) ?_)
 intro w235 hS
 refine WL_y (Y_not rfl) <|WL_y (Y_move (.bool (!r237)) rfl) ?_
 rcases ic hz with ⟨hc238, hz⟩ | ⟨hc238, hz⟩ <;> rw [hc238]
 refine WL_d 10 rfl ?_
 refine WL_nil (nm_then ?_)
 exact ⟨M, true, hF233, hS, hT_1, rfl, rfl, rfl, rfl, hz⟩
 refine WL_gy rfl rfl (Y_move (.int .i64 x2) hT_1) ?_
 obtain ⟨r241, hr240, hz⟩ := bind_ok hz
 refine WL_g rfl rfl (O_val (vs := [.int .i64 x2]) (v := .bool r241) cb51 (args1 rfl) hS (nodeIs_ok hS.agree hr240) ?_)
 intro w239 hS
 refine WL_gy rfl rfl (Y_not rfl) <|WL_d 2 rfl ?_
 rcases ic hz with ⟨hc242, hz⟩ | ⟨hc242, hz⟩ <;> rw [hc242]
 refine WL_d 5 rfl ?_
 refine WL_nil (nm_then ?_)
 exact ⟨M, true, hF233, hS, hT_1, rfl, rfl, rfl, rfl, hz⟩
 refine WL_gy rfl rfl (Y_fa fa38_1 rfl) <|WL_gy rfl rfl (Y_ld1 (.int .i64 x3.node) ts3 rfl (hS.bvB 1 rfl) (GFrame.p1 (rep_root (k := 7) rfl hcx3))) <|WL_gy rfl rfl (Y_move (.int .i64 x2) hT_1) <|WL_gy rfl rfl (Y_neq rfl rfl) <|WL_y (Y_pick_f (.bool (x3.node != x2)) rfl rfl) ?_
 refine WL_nil (nm_then ?_)
 exact ⟨M, (x3.node != x2), hF233, hS, hT_1, rfl, rfl, rfl, rfl, hz⟩
 rintro T225 w223 ⟨M224, c226, hx227, hS, hT225_1, hT225_3, hT225_5, hT225_6, hT225_27, hz⟩
 replace hcx1 := Rep.mono hx227.1 hcx1
 replace hcx3 := Rep.mono hx227.1 hcx3
 replace zb9 := Rep.mono hx227.1 zb9
 replace hE := Mm.ext.trans hE hx227
 replace hF222 := Mm.ext.trans hF222 hx227
 rw [nodeTake_j8] at hz
 refine W_cond hT225_27 (fun hc228 => ?_) (fun hc228 => ?_)
 replace hz := bif_ok_t hz hc228
 refine W_seq <|W_reg ?_
 have ha229 := (rep_root (k := 201) rfl hcx1)
 refine WL_y (Y_ldn ta48 hT225_3 (hS.bvB 2 rfl) (Rep.len ha229)) ?_
 have hw231 : ((sl cx1 (0) 201) : List Value).length = 201 := Rep.len ha229
 have hl231 : ((Zr.zc GNode)).length = 201 := Rep.len zb9
 obtain ⟨d232, hd231, hz⟩ := bind_ok hz
 have hb231 : rep M224 (pt (Zr.zc GNode) (0) (sl cx1 (0) 201)) d232 := rep_eq (rep_whole (k := 201) (by rw [pt_length (by omega)]; exact hl231) (rep_leaf rfl ha229 (by omega))) hd231
 generalize hg231 : (pt (Zr.zc GNode) (0) (sl cx1 (0) 201)) = cs231 at hb231
 refine WL_c (O_st (j := 0) (v := .agg (sl cx1 (0) 201).toArray) (ws := (sl cx1 (0) 201)) hS rfl (by kernel_rfl) hT225_6 rfl rfl hw231 (Rep.one ha229) (by omega) ?_)
 rw [hg231]
 clear hg231
 intro w230 hS
 replace hS : St w noX M224 [.box b9 cs231 48, .box b7 cx3 38, .box b5 cx1 48] w230 := hS
 refine WL_d 2 rfl ?_
 refine WL_nil (nm_then ?_)
 cases hz
 exact W_ret (rt_then (R_ctt (j := 0) rfl hT225_6 rfl rfl (by rw [Rep.len hb231]; exact ta48) hS rfl (Gives.mk (St.dropB (St.dropB (St.dropB hS hb9) hb7) hb5) hE ⟨_, _, rfl, hb231, (repL_nil _)⟩)))
 replace hz := bif_ok_f hz hc228
 refine W_skip (nm_then ?_)
 exact ⟨M224, (Zr.zc GNode), (Zr.zd : GNode), hF222, hS, zb9, hT225_1, hT225_3, hT225_5, hT225_6, hz⟩
 rintro T12 w10 ⟨M11, cs13, d14, hx15, hS, hb13, hT12_1, hT12_3, hT12_5, hT12_6, hz⟩
 replace hcx1 := Rep.mono hx15.1 hcx1
 replace hcx3 := Rep.mono hx15.1 hcx3
 replace hE := Mm.ext.trans hE hx15
 rw [nodeTake_j1] at hz
 refine W_seq <|W_seq <|W_reg ?_
 have ha16 := (rep_root (k := 7) rfl hcx3)
 refine WL_y (Y_ldn ta38 hT12_5 (hS.bvB 1 rfl) (Rep.len ha16)) ?_
 obtain ⟨r19, hr18, hz⟩ := bind_ok hz
 replace hr18 := Option.some.inj hr18
 refine WL_c (O_val (vs := [.agg (sl cx3 (0) 7).toArray]) (v := .int .i64 r19) cb43 (args1 rfl) hS (hr18 ▸ (c_good hS.agree ha16)) ?_)
 intro w17 hS
 refine WL_y (Y_assign (.int .i64 r19) rfl) ?_
 refine WL_nil (nm_then ?_)
 refine W_seq <|W_reg <|WL_y (Y_move (.int .i64 r19) rfl) <|WL_y (Y_neq rfl rfl) ?_
 refine WL_nil (nm_then ?_)
 refine W_cond rfl (fun hc20 => ?_) (fun hc20 => ?_)
 replace hz := bif_ok_t hz hc20
 refine W_seq <|W_reg ?_
 have ha21 := (rep_root (k := 201) rfl hcx1)
 refine WL_y (Y_ldn ta48 hT12_3 (hS.bvB 2 rfl) (Rep.len ha21)) <|WL_y (Y_move (.int .i64 r19) rfl) ?_
 have hw23 : ((sl cx1 (0) 201) : List Value).length = 201 := Rep.len ha21
 have hl23 : (cs13).length = 201 := Rep.len hb13
 obtain ⟨d24, hd23, hz⟩ := bind_ok hz
 have hb23 : rep M11 (pt cs13 (0) (sl cx1 (0) 201)) d24 := rep_eq (rep_whole (k := 201) (by rw [pt_length (by omega)]; exact hl23) (rep_leaf rfl ha21 (by omega))) hd23
 generalize hg23 : (pt cs13 (0) (sl cx1 (0) 201)) = cs23 at hb23
 refine WL_c (O_st (j := 0) (v := .agg (sl cx1 (0) 201).toArray) (ws := (sl cx1 (0) 201)) hS rfl (by kernel_rfl) hT12_6 rfl rfl hw23 (Rep.one ha21) (by omega) ?_)
 rw [hg23]
 clear hg23
 intro w22 hS
 replace hS : St w noX M11 [.box b9 cs23 48, .box b7 cx3 38, .box b5 cx1 48] w22 := hS
 refine WL_d 2 rfl ?_
 refine WL_nil (nm_then ?_)
 cases hz
 exact W_ret (rt_then (R_ctt (j := 0) rfl hT12_6 rfl rfl (by rw [Rep.len hb23]; exact ta48) hS rfl (Gives.mk (St.dropB (St.dropB (St.dropB hS hb9) hb7) hb5) hE ⟨_, _, rfl, hb23, (repL_nil _)⟩)))
 replace hz := bif_ok_f hz hc20
 refine W_skip (nm_then ?_)
 refine W_seq <|W_reg <|WL_y (Y_move (.int .i64 x2) hT12_1) ?_
 obtain ⟨r27, hr26, hz⟩ := bind_ok hz
 replace hr26 := Option.some.inj hr26
 refine WL_c (O_val (vs := [.int .i64 x2]) (v := .int .i64 r27) cb45 (args1 rfl) hS (hr26 ▸ (c_of)) ?_)
 intro w25 hS
 refine WL_y (Y_assign (.int .i64 r27) rfl) ?_
 refine WL_nil (nm_then ?_)
 refine W_seq <|W_reg <|WL_y (Y_fa fa38_2 hT12_5) <|WL_y (Y_ld1 (.int .i64 x3.id) ts3 rfl (hS.bvB 1 rfl) (GFrame.p2 (rep_root (k := 7) rfl hcx3))) <|WL_y (Y_fa fa48_0 hT12_3) ?_
 obtain ⟨u28, hx29, hz⟩ := bind_ok hz
 obtain ⟨hx29a, hx29b⟩ := inR_some hx29
 refine WL_y (Y_ixA ia45 rfl rfl hx29a hx29b) <|WL_y (Y_assign (.pointer (some ⟨b5, 0 + 0 + Int.toNat x3.id * 6, none⟩)) rfl) ?_
 refine WL_nil (nm_then ?_)
 refine W_seq <|W_seq <|W_reg <|WL_y (Y_fa fa38_0 hT12_5) <|WL_y (Y_ld1 (.int .i64 x3.kind) ts3 rfl (hS.bvB 1 rfl) (GFrame.p0 (rep_root (k := 7) rfl hcx3))) ?_
 refine WL_nil (nm_then ?_)
 refine W_block <|W_seq <|W_reg <|WL_y (Y_eql rfl rfl) <|WL_y (Y_assign (.bool (x3.kind == 1)) rfl) ?_
 refine WL_nil (nm_then ?_)
 refine W_cond rfl (fun hc30 => ?_) (fun hc30 => ?_)
 replace hz := bif_ok_t hz hc30
 refine W_seq <|W_seq <|W_reg <|WL_y (Y_fa fa38_3 hT12_5) ?_
 obtain ⟨v31, ev31, hv31⟩ := (GFrame.p3 (rep_root (k := 7) rfl hcx3))
 refine WL_y (Y_ld1 v31 ts22 rfl (hS.bvB 1 rfl) ev31) <|WL_y (Y_move (.int .i64 r27) rfl) ?_
 obtain ⟨r34, hr33, hz⟩ := bind_ok hz
 replace hr33 := Option.some.inj hr33
 refine WL_c (O_val (vs := [v31, .int .i64 r27]) (v := .bool r34) cb44 (args2 rfl rfl) hS (hr33 ▸ (c_touches hS.agree hv31)) ?_)
 intro w32 hS
 refine WL_y (Y_not rfl) ?_
 refine WL_nil (nm_then ?_)
 refine W_cond rfl (fun hc35 => ?_) (fun hc35 => ?_)
 replace hz := bif_ok_t hz hc35
 refine W_seq <|W_reg ?_
 have ha36 := (rep_root (k := 201) rfl hcx1)
 refine WL_y (Y_ldn ta48 hT12_3 (hS.bvB 2 rfl) (Rep.len ha36)) ?_
 have hw38 : ((sl cx1 (0) 201) : List Value).length = 201 := Rep.len ha36
 have hl38 : (cs13).length = 201 := Rep.len hb13
 obtain ⟨d39, hd38, hz⟩ := bind_ok hz
 have hb38 : rep M11 (pt cs13 (0) (sl cx1 (0) 201)) d39 := rep_eq (rep_whole (k := 201) (by rw [pt_length (by omega)]; exact hl38) (rep_leaf rfl ha36 (by omega))) hd38
 generalize hg38 : (pt cs13 (0) (sl cx1 (0) 201)) = cs38 at hb38
 refine WL_c (O_st (j := 0) (v := .agg (sl cx1 (0) 201).toArray) (ws := (sl cx1 (0) 201)) hS rfl (by kernel_rfl) hT12_6 rfl rfl hw38 (Rep.one ha36) (by omega) ?_)
 rw [hg38]
 clear hg38
 intro w37 hS
 replace hS : St w noX M11 [.box b9 cs38 48, .box b7 cx3 38, .box b5 cx1 48] w37 := hS
 refine WL_d 2 rfl ?_
 refine WL_nil (nm_then ?_)
 cases hz
 exact W_ret (rt_then (rt_blk (rt_then (R_ctt (j := 0) rfl hT12_6 rfl rfl (by rw [Rep.len hb38]; exact ta48) hS rfl (Gives.mk (St.dropB (St.dropB (St.dropB hS hb9) hb7) hb5) hE ⟨_, _, rfl, hb38, (repL_nil _)⟩)))))
 replace hz := bif_ok_f hz hc35
 refine W_skip (nm_then ?_)
 refine W_seqJ (fun T' w' => ∃ M41 cs43 d44, Mm.ext w.heap.size noX M11 M41 ∧ St w noX M41 [.box b9 cs13 48, .box b7 cx3 38, .box b5 cs43 48] w' ∧ rep M41 cs43 d44 ∧ T' 1 = .int .i64 x2 ∧ T' 3 = .pointer (some ⟨b5, 0, none⟩) ∧ T' 5 = .pointer (some ⟨b7, 0, none⟩) ∧ T' 6 = .pointer (some ⟨b9, 0, none⟩) ∧ T' 11 = .pointer (some ⟨b5, 0 + 0 + Int.toNat x3.id * 6, none⟩) ∧ nodeTake_j2 x2 x3 d44 = some r) ?_ ?_
 have hF74 := Mm.ext.refl w.heap.size noX M11
 refine W_seq <|W_reg <|WL_y (Y_move (.pointer (some ⟨b5, 0 + 0 + Int.toNat x3.id * 6, none⟩)) rfl) <|WL_y (Y_nil rfl) <|WL_y (Y_fa fa44_0 rfl) ?_
 obtain ⟨x75, hx76, hz⟩ := bind_ok hz
 refine WL_y (Y_ld1 (.int .i64 x75.state) ts3 rfl (hS.bvB 2 rfl) (GEntry.p0 (vp (k := 6) rfl rfl (GNode.p0 (rep_root (k := 201) rfl hcx1)) hx76))) <|WL_y (Y_eql rfl rfl) ?_
 refine WL_nil (nm_then ?_)
 refine W_cond rfl (fun hc77 => ?_) (fun hc77 => ?_)
 replace hz := bif_ok_t hz hc77
 refine W_drawB (Rd M11 [.box b7 cx3 38, .box b5 cx1 48]) (inL [12]) mixed hS fun w78 hS => ?_
 have hG79 := Mm.ext.refl w.heap.size noX M11
 have hR80 : Rd M11 [.box b7 cx3 38, .box b5 cx1 48] w78 := Rd.of hS hG79 (by simp)
 refine WB_y (i := 0) rfl (by kernel_rfl) rfl (Y_move (.pointer (some ⟨b5, 0 + 0 + Int.toNat x3.id * 6, none⟩)) rfl) (fun _ => hR80) <|WB_y (i := 1) rfl (by kernel_rfl) rfl (Y_fa fa38_3 hT12_5) (fun _ => hR80) ?_
 obtain ⟨v81, ev81, hv81⟩ := (GFrame.p3 (rep_root (k := 7) rfl hcx3))
 refine WB_ld (i := 2) rfl (by kernel_rfl) rfl (inL_lt rfl) (by kernel_rfl) (by kernel_rfl) (Y_ld1 v81 ts22 rfl (bvR 0 rfl) ev81) hR80 ?_
 have ha82 := (rep_root (k := 201) rfl hcx1)
 refine WB_ld (i := 3) rfl (by kernel_rfl) rfl (inL_lt rfl) (by kernel_rfl) (by kernel_rfl) (Y_ldn ta48 hT12_3 (bvR 1 rfl) (Rep.len ha82)) hR80 <|WB_y (i := 4) rfl (by kernel_rfl) rfl (Y_fa fa38_2 hT12_5) (fun _ => hR80) <|WB_ld (i := 5) rfl (by kernel_rfl) rfl (inL_lt rfl) (by kernel_rfl) (by kernel_rfl) (Y_ld1 (.int .i64 x3.id) ts3 rfl (bvR 0 rfl) (GFrame.p2 (rep_root (k := 7) rfl hcx3))) hR80 <|WB_y (i := 6) rfl (by kernel_rfl) rfl (Y_fa fa38_3 hT12_5) (fun _ => hR80) ?_
 obtain ⟨v83, ev83, hv83⟩ := (GFrame.p3 (rep_root (k := 7) rfl hcx3))
 refine WB_ld (i := 7) rfl (by kernel_rfl) rfl (inL_lt rfl) (by kernel_rfl) (by kernel_rfl) (Y_ld1 v83 ts22 rfl (bvR 0 rfl) ev83) hR80 <|WB_y (i := 8) rfl (by kernel_rfl) rfl (Y_move (.int .i64 r27) rfl) (fun _ => hR80) ?_
 obtain ⟨r86, hr85, hz⟩ := bind_ok hz
 refine WB_one (i := 9) (by kernel_rfl) rfl (O_mem (vs := [.agg (sl cx1 (0) 201).toArray, .int .i64 x3.id, v83, .int .i64 r27]) (rv := (fun M' u => repL M' u r86)) cb52 (args4 rfl rfl rfl rfl) hS (nodeAhead_ok hS.agree ha82 hv83 hr85) ?_)
 intro u85 M85 w84 hx85 hu85 hS
 have f85 : repL M85 u85 r86 := hu85
 replace hcx1 := Rep.mono hx85.1 hcx1
 replace hcx3 := Rep.mono hx85.1 hcx3
 replace hb13 := Rep.mono hx85.1 hb13
 replace hv81 := repL.mono hx85.1 hv81
 replace ha82 := Rep.mono hx85.1 ha82
 replace hv83 := repL.mono hx85.1 hv83
 replace hE := Mm.ext.trans hE hx85
 replace hF74 := Mm.ext.trans hF74 hx85
 replace hG79 := Mm.ext.trans hG79 hx85
 have hR87 : Rd M11 [.box b7 cx3 38, .box b5 cx1 48] w84 := Rd.of hS hG79 (by simp)
 refine ⟨fun _ => hR87, ?_⟩
 have k88_0 := GEntry.w0 (Zr.zr : rep M85 (Zr.zc GEntry) (Zr.zd : GEntry)) (show rep M85 [Value.int .i64 1] (1 : Int) from rfl)
 have k88_1 := GEntry.w1 k88_0 (repL_rep hv81)
 have k88_2 := GEntry.w2 k88_1 (repL_rep f85)
 obtain ⟨d89, hd88, hz⟩ := bind_ok hz
 obtain ⟨cs88, hf88, ha88⟩ : ∃ cs, fillZ (([(0, 1), (1, 1), (2, 1), (3, 1), (4, 1), (5, 1)] : List (Nat × Nat))[·]?) (Zr.zc GEntry) [(0, .int .i64 1), (1, v81), (2, u85)] = some cs ∧ rep M85 cs d89 := ⟨_, (fz_cons (Zr.zr : rep M85 (Zr.zc GEntry) (Zr.zd : GEntry)) rfl rfl (Rep.len (show rep M85 [Value.int .i64 1] (1 : Int) from rfl)) (by decide) (fz_cons k88_0 rfl (repL_cells hv81) (Rep.len (repL_rep hv81)) (by decide) (fz_cons k88_1 rfl (repL_cells f85) (Rep.len (repL_rep f85)) (by decide) fz_nil))), rep_eq (x := ({ state := 1, ops := x3.ops, first := r86, deps := Zr.zd, at_ := Zr.zd, values := Zr.zd } : GEntry)) k88_2 hd88⟩
 refine WB_y (i := 10) rfl (by kernel_rfl) rfl (Y_build [(0, .int .i64 1), (1, v81), (2, u85)] tb44 (bpc rfl (bpc rfl (bpc rfl bp0))) hf88) (fun _ => hR87) <|WB_y (i := 11) rfl (by kernel_rfl) rfl (Y_nil rfl) (fun _ => hR87) ?_
 obtain ⟨x92, hx93, hz⟩ := bind_ok hz
 have hw91 : (cs88 : List Value).length = 6 := Rep.len ha88
 have hl91 : (cx1).length = 201 := Rep.len hcx1
 have hq94 := (idxV_some hx93)
 obtain ⟨a95, hx96, hz⟩ := bind_ok hz
 obtain ⟨d97, hd91, hz⟩ := bind_ok hz
 have hb91 : rep M85 (pt cx1 (0 + 0 + Int.toNat x3.id * 6) cs88) d97 := rep_eq (rep_whole (k := 201) (by rw [pt_length (by omega)]; exact hl91) (GNode.s0 (rep_root (k := 201) rfl hcx1) (vs (k := 6) rfl rfl (GNode.p0 (rep_root (k := 201) rfl hcx1)) (rep_leaf rfl ha88 (by omega)) hx96 (by omega) (by omega) (by omega)) (by omega) (by omega) (by omega))) hd91
 generalize hg91 : (pt cx1 (0 + 0 + Int.toNat x3.id * 6) cs88) = cs91 at hb91
 refine WB_one (i := 12) (by kernel_rfl) rfl (O_st (j := 2) (v := .agg cs88.toArray) (ws := cs88) hS rfl (by kernel_rfl) rfl rfl rfl hw91 (Rep.one ha88) (by omega) ?_)
 rw [hg91]
 clear hg91
 intro w90 hS
 replace hS : St w noX M85 [.box b9 cs13 48, .box b7 cx3 38, .box b5 cs91 48] w90 := hS
 refine ⟨fun h => Bool.noConfusion (show false = true from h), ?_⟩
 refine WB_done (by kernel_rfl) (nm_then ?_)
 exact ⟨M85, cs91, d97, hF74, hS, hb91, hT12_1, hT12_3, hT12_5, hT12_6, rfl, hz⟩
 replace hz := bif_ok_f hz hc77
 refine W_skip (nm_then ?_)
 exact ⟨M11, cx1, x1, hF74, hS, hcx1, hT12_1, hT12_3, hT12_5, hT12_6, rfl, hz⟩
 rintro T42 w40 ⟨M41, cs43, d44, hx45, hS, hb43, hT42_1, hT42_3, hT42_5, hT42_6, hT42_11, hz⟩
 replace hcx3 := Rep.mono hx45.1 hcx3
 replace hb13 := Rep.mono hx45.1 hb13
 replace hE := Mm.ext.trans hE hx45
 rw [nodeTake_j2] at hz
 refine W_seqJ (fun T' w' => ∃ M47 cs49 d50 v52 l51 y53, Mm.ext w.heap.size noX M41 M47 ∧ St w noX M47 [.box b9 cs49 48, .box b7 cx3 38, .box b5 cs43 48] w' ∧ rep M47 cs49 d50 ∧ repL M47 v52 l51 ∧ T' 6 = .pointer (some ⟨b9, 0, none⟩) ∧ T' 7 = v52 ∧ T' 8 = .int .i64 y53 ∧ nodeTake_j3 d50 l51 y53 = some r) ?_ ?_
 have hF55 := Mm.ext.refl w.heap.size noX M41
 refine W_drawB (Rd M41 [.box b7 cx3 38, .box b5 cs43 48]) (inL []) mixed hS fun w56 hS => ?_
 have hG57 := Mm.ext.refl w.heap.size noX M41
 have hR58 : Rd M41 [.box b7 cx3 38, .box b5 cs43 48] w56 := Rd.of hS hG57 (by simp)
 have ha59 := (rep_root (k := 201) rfl hb43)
 refine WB_ld (i := 0) rfl (by kernel_rfl) rfl (inL_lt rfl) (by kernel_rfl) (by kernel_rfl) (Y_ldn ta48 hT42_3 (bvR 1 rfl) (Rep.len ha59)) hR58 <|WB_y (i := 1) rfl (by kernel_rfl) rfl (Y_move (.int .i64 x2) hT42_1) (fun _ => hR58) <|WB_y (i := 2) rfl (by kernel_rfl) rfl (Y_fa fa38_2 hT42_5) (fun _ => hR58) <|WB_ld (i := 3) rfl (by kernel_rfl) rfl (inL_lt rfl) (by kernel_rfl) (by kernel_rfl) (Y_ld1 (.int .i64 x3.id) ts3 rfl (bvR 0 rfl) (GFrame.p2 (rep_root (k := 7) rfl hcx3))) hR58 <|WB_y (i := 4) rfl (by kernel_rfl) rfl (Y_move (.pointer (some ⟨b5, 0 + 0 + Int.toNat x3.id * 6, none⟩)) hT42_11) (fun _ => hR58) <|WB_y (i := 5) rfl (by kernel_rfl) rfl (Y_nil rfl) (fun _ => hR58) <|WB_y (i := 6) rfl (by kernel_rfl) rfl (Y_fa fa44_2 rfl) (fun _ => hR58) ?_
 obtain ⟨x60, hx61, hz⟩ := bind_ok hz
 obtain ⟨v62, ev62, hv62⟩ := (GEntry.p2 (vp (k := 6) rfl rfl (GNode.p0 (rep_root (k := 201) rfl hb43)) hx61))
 refine WB_ld (i := 7) rfl (by kernel_rfl) rfl (inL_lt rfl) (by kernel_rfl) (by kernel_rfl) (Y_ld1 v62 ts27 rfl (bvR 1 rfl) ev62) hR58 ?_
 have k63_0 := GFrame.w0 (Zr.zr : rep M41 (Zr.zc GFrame) (Zr.zd : GFrame)) (show rep M41 [Value.int .i64 2] (2 : Int) from rfl)
 have k63_1 := GFrame.w1 k63_0 (show rep M41 [Value.int .i64 x2] (x2 : Int) from rfl)
 have k63_2 := GFrame.w2 k63_1 (show rep M41 [Value.int .i64 x3.id] (x3.id : Int) from rfl)
 have k63_3 := GFrame.w4 k63_2 (repL_rep hv62)
 obtain ⟨d64, hd63, hz⟩ := bind_ok hz
 obtain ⟨cs63, hf63, ha63⟩ : ∃ cs, fillZ (([(0, 1), (1, 1), (2, 1), (3, 1), (4, 1), (5, 1), (6, 1)] : List (Nat × Nat))[·]?) (Zr.zc GFrame) [(0, .int .i64 2), (1, .int .i64 x2), (2, .int .i64 x3.id), (4, v62)] = some cs ∧ rep M41 cs d64 := ⟨_, (fz_cons (Zr.zr : rep M41 (Zr.zc GFrame) (Zr.zd : GFrame)) rfl rfl (Rep.len (show rep M41 [Value.int .i64 2] (2 : Int) from rfl)) (by decide) (fz_cons k63_0 rfl rfl (Rep.len (show rep M41 [Value.int .i64 x2] (x2 : Int) from rfl)) (by decide) (fz_cons k63_1 rfl rfl (Rep.len (show rep M41 [Value.int .i64 x3.id] (x3.id : Int) from rfl)) (by decide) (fz_cons k63_2 rfl (repL_cells hv62) (Rep.len (repL_rep hv62)) (by decide) fz_nil)))), rep_eq (x := ({ kind := 2, node := x2, id := x3.id, ops := Zr.zd, deps := x60.first, at_ := Zr.zd, vals := Zr.zd } : GFrame)) k63_3 hd63⟩
 refine WB_y (i := 8) rfl (by kernel_rfl) rfl (Y_build [(0, .int .i64 2), (1, .int .i64 x2), (2, .int .i64 x3.id), (4, v62)] tb38 (bpc rfl (bpc rfl (bpc rfl (bpc rfl bp0)))) hf63) (fun _ => hR58) ?_
 obtain ⟨d69, hd68, hz⟩ := bind_ok hz
 have hw68 : ((sl cs43 (0) 201) : List Value).length = 201 := Rep.len ha59
 have hl68 : (cs13).length = 201 := Rep.len hb13
 have hb68 : rep M41 (pt cs13 (0) (sl cs43 (0) 201)) d69 := rep_eq (rep_whole (k := 201) (by rw [pt_length (by omega)]; exact hl68) (rep_leaf rfl ha59 (by omega))) hd68
 generalize hg68 : (pt cs13 (0) (sl cs43 (0) 201)) = cs68 at hb68
 refine WB_two (i := 9) (j := 10) (by kernel_rfl) rfl rfl (O_bslice (α := GFrame) (l := ([d64] : List GFrame)) [.agg cs63.toArray] tl25 (bpc rfl bp0) rfl rfl (by decide) (by decide) (by decide) hS (brc ha63 br0) ?_) (O_st (j := 0) (v := .agg (sl cs43 (0) 201).toArray) (ws := (sl cs43 (0) 201)) hS rfl (by kernel_rfl) hT42_6 rfl rfl hw68 (Rep.one ha59) (by omega) ?_)
 intro v66 M66 w65 hx66 hv66 hS
 replace hcx3 := Rep.mono hx66.1 hcx3
 replace hb13 := Rep.mono hx66.1 hb13
 replace hb43 := Rep.mono hx66.1 hb43
 replace ha59 := Rep.mono hx66.1 ha59
 replace hv62 := repL.mono hx66.1 hv62
 replace ha63 := Rep.mono hx66.1 ha63
 replace hE := Mm.ext.trans hE hx66
 replace hF55 := Mm.ext.trans hF55 hx66
 replace hG57 := Mm.ext.trans hG57 hx66
 have hR70 : Rd M41 [.box b7 cx3 38, .box b5 cs43 48] w65 := Rd.of hS hG57 (by simp)
 refine ⟨fun _ => hR70, ?_⟩
 have hw68 : ((sl cs43 (0) 201) : List Value).length = 201 := Rep.len ha59
 have hl68 : (cs13).length = 201 := Rep.len hb13
 have hb68 : rep M66 (pt cs13 (0) (sl cs43 (0) 201)) d69 := rep_eq (rep_whole (k := 201) (by rw [pt_length (by omega)]; exact hl68) (rep_leaf rfl ha59 (by omega))) hd68
 generalize hg68 : (pt cs13 (0) (sl cs43 (0) 201)) = cs68 at hb68
 refine WB_one (i := 10) (by kernel_rfl) rfl (O_st (j := 0) (v := .agg (sl cs43 (0) 201).toArray) (ws := (sl cs43 (0) 201)) hS rfl (by kernel_rfl) hT42_6 rfl rfl hw68 (Rep.one ha59) (by omega) ?_)
 rw [hg68]
 clear hg68
 intro w67 hS
 replace hS : St w noX M66 [.box b9 cs68 48, .box b7 cx3 38, .box b5 cs43 48] w67 := hS
 have hR71 : Rd M41 [.box b7 cx3 38, .box b5 cs43 48] w67 := Rd.of hS hG57 (by simp)
 refine ⟨fun _ => hR71, ?_⟩
 refine WB_y (i := 11) rfl (by kernel_rfl) rfl (Y_assign (v66) rfl) (fun _ => hR71) <|WB_y (i := 12) rfl (by kernel_rfl) rfl (Y_assign (.int .i64 0) rfl) (fun _ => hR71) ?_
 refine WB_done (by kernel_rfl) (nm_then ?_)
 exact ⟨M66, cs68, d69, v66, ([d64] : List GFrame), (0 : Int), hF55, hS, hb68, hv66, hT42_6, rfl, rfl, hz⟩
 rw [hg68]
 clear hg68
 intro w67 hS
 replace hS : St w noX M41 [.box b9 cs68 48, .box b7 cx3 38, .box b5 cs43 48] w67 := hS
 have hR72 : Rd M41 [.box b7 cx3 38, .box b5 cs43 48] w67 := Rd.of hS hG57 (by simp)
 refine ⟨fun _ => hR72, ?_⟩
 refine WB_one (i := 9) (by kernel_rfl) rfl (O_bslice (α := GFrame) (l := ([d64] : List GFrame)) [.agg cs63.toArray] tl25 (bpc rfl bp0) rfl rfl (by decide) (by decide) (by decide) hS (brc ha63 br0) ?_)
 intro v66 M66 w65 hx66 hv66 hS
 replace hcx3 := Rep.mono hx66.1 hcx3
 replace hb43 := Rep.mono hx66.1 hb43
 replace ha59 := Rep.mono hx66.1 ha59
 replace hv62 := repL.mono hx66.1 hv62
 replace ha63 := Rep.mono hx66.1 ha63
 replace hb68 := Rep.mono hx66.1 hb68
 replace hE := Mm.ext.trans hE hx66
 replace hF55 := Mm.ext.trans hF55 hx66
 replace hG57 := Mm.ext.trans hG57 hx66
 have hR73 : Rd M41 [.box b7 cx3 38, .box b5 cs43 48] w65 := Rd.of hS hG57 (by simp)
 refine ⟨fun _ => hR73, ?_⟩
 refine WB_y (i := 11) rfl (by kernel_rfl) rfl (Y_assign (v66) rfl) (fun _ => hR73) <|WB_y (i := 12) rfl (by kernel_rfl) rfl (Y_assign (.int .i64 0) rfl) (fun _ => hR73) ?_
 refine WB_done (by kernel_rfl) (nm_then ?_)
 exact ⟨M66, cs68, d69, v66, ([d64] : List GFrame), (0 : Int), hF55, hS, hb68, hv66, hT42_6, rfl, rfl, hz⟩
 rintro T48 w46 ⟨M47, cs49, d50, v52, l51, y53, hx54, hS, hb49, hv52, hT48_6, hT48_7, hT48_8, hz⟩
 replace hcx3 := Rep.mono hx54.1 hcx3
 replace hb43 := Rep.mono hx54.1 hb43
 replace hE := Mm.ext.trans hE hx54
 rw [nodeTake_j3] at hz
 cases hz
 exact W_ret (rt_blk (rt_then (R_ctt (j := 0) rfl hT48_6 hT48_7 hT48_8 (by rw [Rep.len hb49]; exact ta48) hS rfl (Gives.mk (St.dropB (St.dropB (St.dropB hS hb9) hb7) hb5) hE ⟨_, _, rfl, hb49, hv52⟩))))
 replace hz := bif_ok_f hz hc30
 refine W_seq <|W_reg <|WL_y (Y_eql rfl rfl) <|WL_y (Y_assign (.bool (x3.kind == 3)) rfl) ?_
 refine WL_nil (nm_then ?_)
 refine W_cond rfl (fun hc98 => ?_) (fun hc98 => ?_)
 replace hz := bif_ok_t hz hc98
 refine W_seqJ (fun T' w' => ∃ M100 cs102 d103, Mm.ext w.heap.size noX M11 M100 ∧ St w noX M100 [.box b9 cs13 48, .box b7 cx3 38, .box b5 cs102 48] w' ∧ rep M100 cs102 d103 ∧ T' 1 = .int .i64 x2 ∧ T' 3 = .pointer (some ⟨b5, 0, none⟩) ∧ T' 5 = .pointer (some ⟨b7, 0, none⟩) ∧ T' 6 = .pointer (some ⟨b9, 0, none⟩) ∧ T' 10 = .int .i64 r27 ∧ nodeTake_j4 x2 x3 r27 d103 = some r) ?_ ?_
 have hF152 := Mm.ext.refl w.heap.size noX M11
 refine W_seq <|W_reg <|WL_y (Y_move (.pointer (some ⟨b5, 0 + 0 + Int.toNat x3.id * 6, none⟩)) rfl) <|WL_y (Y_nil rfl) <|WL_y (Y_fa fa44_0 rfl) ?_
 obtain ⟨x153, hx154, hz⟩ := bind_ok hz
 refine WL_y (Y_ld1 (.int .i64 x153.state) ts3 rfl (hS.bvB 2 rfl) (GEntry.p0 (vp (k := 6) rfl rfl (GNode.p0 (rep_root (k := 201) rfl hcx1)) hx154))) <|WL_y (Y_lss rfl rfl) ?_
 refine WL_nil (nm_then ?_)
 refine W_cond rfl (fun hc155 => ?_) (fun hc155 => ?_)
 replace hz := bif_ok_t hz hc155
 refine W_seqJ (fun T' w' => ∃ M157 cs159 d160, Mm.ext w.heap.size noX M11 M157 ∧ St w noX M157 [.box b9 cs13 48, .box b7 cx3 38, .box b5 cs159 48] w' ∧ rep M157 cs159 d160 ∧ T' 1 = .int .i64 x2 ∧ T' 3 = .pointer (some ⟨b5, 0, none⟩) ∧ T' 5 = .pointer (some ⟨b7, 0, none⟩) ∧ T' 6 = .pointer (some ⟨b9, 0, none⟩) ∧ T' 10 = .int .i64 r27 ∧ T' 11 = .pointer (some ⟨b5, 0 + 0 + Int.toNat x3.id * 6, none⟩) ∧ nodeTake_j7 fu x2 x3 r27 d160 = some r) ?_ ?_
 have hF201 := Mm.ext.refl w.heap.size noX M11
 refine W_seq <|W_reg <|WL_y (Y_move (.pointer (some ⟨b5, 0 + 0 + Int.toNat x3.id * 6, none⟩)) rfl) <|WL_y (Y_nil rfl) <|WL_y (Y_fa fa44_0 rfl) ?_
 obtain ⟨x202, hx203, hz⟩ := bind_ok hz
 refine WL_y (Y_ld1 (.int .i64 x202.state) ts3 rfl (hS.bvB 2 rfl) (GEntry.p0 (vp (k := 6) rfl rfl (GNode.p0 (rep_root (k := 201) rfl hcx1)) hx203))) <|WL_y (Y_eql rfl rfl) ?_
 refine WL_nil (nm_then ?_)
 refine W_cond rfl (fun hc204 => ?_) (fun hc204 => ?_)
 replace hz := bif_ok_t hz hc204
 refine W_reg <|WL_y (Y_move (.pointer (some ⟨b5, 0 + 0 + Int.toNat x3.id * 6, none⟩)) rfl) ?_
 have ha205 := (rep_root (k := 201) rfl hcx1)
 refine WL_y (Y_ldn ta48 hT12_3 (hS.bvB 2 rfl) (Rep.len ha205)) <|WL_y (Y_fa fa38_2 hT12_5) <|WL_y (Y_ld1 (.int .i64 x3.id) ts3 rfl (hS.bvB 1 rfl) (GFrame.p2 (rep_root (k := 7) rfl hcx3))) <|WL_y (Y_fa fa38_3 hT12_5) ?_
 obtain ⟨v206, ev206, hv206⟩ := (GFrame.p3 (rep_root (k := 7) rfl hcx3))
 refine WL_y (Y_ld1 v206 ts22 rfl (hS.bvB 1 rfl) ev206) <|WL_y (Y_move (.int .i64 r27) rfl) ?_
 obtain ⟨r209, hr208, hz⟩ := bind_ok hz
 refine WL_c (O_mem (vs := [.agg (sl cx1 (0) 201).toArray, .int .i64 x3.id, v206, .int .i64 r27]) (rv := (fun M' u => repL M' u r209)) cb52 (args4 rfl rfl rfl rfl) hS (nodeAhead_ok hS.agree ha205 hv206 hr208) ?_)
 intro u208 M208 w207 hx208 hu208 hS
 have f208 : repL M208 u208 r209 := hu208
 replace hcx1 := Rep.mono hx208.1 hcx1
 replace hcx3 := Rep.mono hx208.1 hcx3
 replace hb13 := Rep.mono hx208.1 hb13
 replace ha205 := Rep.mono hx208.1 ha205
 replace hv206 := repL.mono hx208.1 hv206
 replace hE := Mm.ext.trans hE hx208
 replace hF152 := Mm.ext.trans hF152 hx208
 replace hF201 := Mm.ext.trans hF201 hx208
 refine WL_y (Y_nil rfl) <|WL_y (Y_fa fa44_2 rfl) ?_
 obtain ⟨x212, hx213, hz⟩ := bind_ok hz
 have hw211 : ([u208] : List Value).length = 1 := Rep.len (repL_rep f208)
 have hl211 : (cx1).length = 201 := Rep.len hcx1
 have hq214 := (idxV_some hx213)
 obtain ⟨a215, hx216, hz⟩ := bind_ok hz
 obtain ⟨d217, hd211, hz⟩ := bind_ok hz
 have hb211 : rep M208 (pt cx1 (0 + 0 + Int.toNat x3.id * 6 + 2) [u208]) d217 := rep_eq (rep_whole (k := 201) (by rw [pt_length (by omega)]; exact hl211) (GNode.s0 (rep_root (k := 201) rfl hcx1) (vs (k := 6) rfl rfl (GNode.p0 (rep_root (k := 201) rfl hcx1)) (GEntry.s2 (vp (k := 6) rfl rfl (GNode.p0 (rep_root (k := 201) rfl hcx1)) hx213) (rep_leaf rfl (repL_rep f208) (by omega)) (by omega) (by omega) (by omega)) hx216 (by omega) (by omega) (by omega)) (by omega) (by omega) (by omega))) hd211
 generalize hg211 : (pt cx1 (0 + 0 + Int.toNat x3.id * 6 + 2) [u208]) = cs211 at hb211
 refine WL_c (O_st (j := 2) (v := u208) (ws := [u208]) hS rfl (by kernel_rfl) rfl rfl (repL_cells f208) hw211 (Rep.one (repL_rep f208)) (by omega) ?_)
 rw [hg211]
 clear hg211
 intro w210 hS
 replace hS : St w noX M208 [.box b9 cs13 48, .box b7 cx3 38, .box b5 cs211 48] w210 := hS
 refine WL_nil (nm_then ?_)
 exact ⟨M208, cs211, d217, hF201, hS, hb211, hT12_1, hT12_3, hT12_5, hT12_6, rfl, rfl, hz⟩
 replace hz := bif_ok_f hz hc204
 refine W_skip (nm_then ?_)
 exact ⟨M11, cx1, x1, hF201, hS, hcx1, hT12_1, hT12_3, hT12_5, hT12_6, rfl, rfl, hz⟩
 rintro T158 w156 ⟨M157, cs159, d160, hx161, hS, hb159, hT158_1, hT158_3, hT158_5, hT158_6, hT158_10, hT158_11, hz⟩
 replace hcx3 := Rep.mono hx161.1 hcx3
 replace hb13 := Rep.mono hx161.1 hb13
 replace hE := Mm.ext.trans hE hx161
 replace hF152 := Mm.ext.trans hF152 hx161
 rw [nodeTake_j7] at hz
 refine W_seq <|W_drawB (Rd M157 [.box b7 cx3 38]) (inL []) mixed hS fun w162 hS => ?_
 have hG163 := Mm.ext.refl w.heap.size noX M157
 have hR164 : Rd M157 [.box b7 cx3 38] w162 := Rd.of hS hG163 (by simp)
 refine WB_y (i := 0) rfl (by kernel_rfl) rfl (Y_move (.pointer (some ⟨b5, 0 + 0 + Int.toNat x3.id * 6, none⟩)) hT158_11) (fun _ => hR164) <|WB_y (i := 1) rfl (by kernel_rfl) rfl (Y_move (.pointer (some ⟨b5, 0 + 0 + Int.toNat x3.id * 6, none⟩)) hT158_11) (fun _ => hR164) <|WB_y (i := 2) rfl (by kernel_rfl) rfl (Y_move (.pointer (some ⟨b5, 0 + 0 + Int.toNat x3.id * 6, none⟩)) hT158_11) (fun _ => hR164) <|WB_y (i := 3) rfl (by kernel_rfl) rfl (Y_fa fa38_3 hT158_5) (fun _ => hR164) ?_
 obtain ⟨v165, ev165, hv165⟩ := (GFrame.p3 (rep_root (k := 7) rfl hcx3))
 refine WB_ld (i := 4) rfl (by kernel_rfl) rfl (inL_lt rfl) (by kernel_rfl) (by kernel_rfl) (Y_ld1 v165 ts22 rfl (bvR 0 rfl) ev165) hR164 <|WB_y (i := 5) rfl (by kernel_rfl) rfl (Y_fa fa38_4 hT158_5) (fun _ => hR164) ?_
 obtain ⟨v166, ev166, hv166⟩ := (GFrame.p4 (rep_root (k := 7) rfl hcx3))
 refine WB_ld (i := 6) rfl (by kernel_rfl) rfl (inL_lt rfl) (by kernel_rfl) (by kernel_rfl) (Y_ld1 v166 ts27 rfl (bvR 0 rfl) ev166) hR164 <|WB_y (i := 7) rfl (by kernel_rfl) rfl (Y_nil rfl) (fun _ => hR164) <|WB_y (i := 8) rfl (by kernel_rfl) rfl (Y_fa fa44_0 rfl) (fun _ => hR164) ?_
 obtain ⟨x169, hx170, hz⟩ := bind_ok hz
 have hw168 : ([.int .i64 2] : List Value).length = 1 := Rep.len (show rep M157 [Value.int .i64 2] (2 : Int) from rfl)
 have hl168 : (cs159).length = 201 := Rep.len hb159
 have hq171 := (idxV_some hx170)
 obtain ⟨a172, hx173, hz⟩ := bind_ok hz
 obtain ⟨d174, hd168, hz⟩ := bind_ok hz
 have hb168 : rep M157 (pt cs159 (0 + 0 + Int.toNat x3.id * 6 + 0) [.int .i64 2]) d174 := rep_eq (rep_whole (k := 201) (by rw [pt_length (by omega)]; exact hl168) (GNode.s0 (rep_root (k := 201) rfl hb159) (vs (k := 6) rfl rfl (GNode.p0 (rep_root (k := 201) rfl hb159)) (GEntry.s0 (vp (k := 6) rfl rfl (GNode.p0 (rep_root (k := 201) rfl hb159)) hx170) (rep_leaf rfl (show rep M157 [Value.int .i64 2] (2 : Int) from rfl) (by omega)) (by omega) (by omega) (by omega)) hx173 (by omega) (by omega) (by omega)) (by omega) (by omega) (by omega))) hd168
 generalize hg168 : (pt cs159 (0 + 0 + Int.toNat x3.id * 6 + 0) [.int .i64 2]) = cs168 at hb168
 refine WB_one (i := 9) (by kernel_rfl) rfl (O_st (j := 2) (v := .int .i64 2) (ws := [.int .i64 2]) hS rfl (by kernel_rfl) rfl rfl rfl hw168 (Rep.one (show rep M157 [Value.int .i64 2] (2 : Int) from rfl)) (by omega) ?_)
 rw [hg168]
 clear hg168
 intro w167 hS
 replace hS : St w noX M157 [.box b9 cs13 48, .box b7 cx3 38, .box b5 cs168 48] w167 := hS
 have hR175 : Rd M157 [.box b7 cx3 38] w167 := Rd.of hS hG163 (by simp)
 refine ⟨fun _ => hR175, ?_⟩
 refine WB_y (i := 10) rfl (by kernel_rfl) rfl (Y_nil rfl) (fun _ => hR175) <|WB_y (i := 11) rfl (by kernel_rfl) rfl (Y_fa fa44_1 rfl) (fun _ => hR175) ?_
 obtain ⟨x178, hx179, hz⟩ := bind_ok hz
 have hw177 : ([v165] : List Value).length = 1 := Rep.len (repL_rep hv165)
 have hl177 : (cs168).length = 201 := Rep.len hb168
 have hq180 := (idxV_some hx179)
 obtain ⟨a181, hx182, hz⟩ := bind_ok hz
 obtain ⟨d183, hd177, hz⟩ := bind_ok hz
 have hb177 : rep M157 (pt cs168 (0 + 0 + Int.toNat x3.id * 6 + 1) [v165]) d183 := rep_eq (rep_whole (k := 201) (by rw [pt_length (by omega)]; exact hl177) (GNode.s0 (rep_root (k := 201) rfl hb168) (vs (k := 6) rfl rfl (GNode.p0 (rep_root (k := 201) rfl hb168)) (GEntry.s1 (vp (k := 6) rfl rfl (GNode.p0 (rep_root (k := 201) rfl hb168)) hx179) (rep_leaf rfl (repL_rep hv165) (by omega)) (by omega) (by omega) (by omega)) hx182 (by omega) (by omega) (by omega)) (by omega) (by omega) (by omega))) hd177
 generalize hg177 : (pt cs168 (0 + 0 + Int.toNat x3.id * 6 + 1) [v165]) = cs177 at hb177
 refine WB_one (i := 12) (by kernel_rfl) rfl (O_st (j := 2) (v := v165) (ws := [v165]) hS rfl (by kernel_rfl) rfl rfl (repL_cells hv165) hw177 (Rep.one (repL_rep hv165)) (by omega) ?_)
 rw [hg177]
 clear hg177
 intro w176 hS
 replace hS : St w noX M157 [.box b9 cs13 48, .box b7 cx3 38, .box b5 cs177 48] w176 := hS
 have hR184 : Rd M157 [.box b7 cx3 38] w176 := Rd.of hS hG163 (by simp)
 refine ⟨fun _ => hR184, ?_⟩
 refine WB_y (i := 13) rfl (by kernel_rfl) rfl (Y_nil rfl) (fun _ => hR184) <|WB_y (i := 14) rfl (by kernel_rfl) rfl (Y_fa fa44_3 rfl) (fun _ => hR184) ?_
 obtain ⟨x187, hx188, hz⟩ := bind_ok hz
 have hw186 : ([v166] : List Value).length = 1 := Rep.len (repL_rep hv166)
 have hl186 : (cs177).length = 201 := Rep.len hb177
 have hq189 := (idxV_some hx188)
 obtain ⟨a190, hx191, hz⟩ := bind_ok hz
 obtain ⟨d192, hd186, hz⟩ := bind_ok hz
 have hb186 : rep M157 (pt cs177 (0 + 0 + Int.toNat x3.id * 6 + 3) [v166]) d192 := rep_eq (rep_whole (k := 201) (by rw [pt_length (by omega)]; exact hl186) (GNode.s0 (rep_root (k := 201) rfl hb177) (vs (k := 6) rfl rfl (GNode.p0 (rep_root (k := 201) rfl hb177)) (GEntry.s3 (vp (k := 6) rfl rfl (GNode.p0 (rep_root (k := 201) rfl hb177)) hx188) (rep_leaf rfl (repL_rep hv166) (by omega)) (by omega) (by omega) (by omega)) hx191 (by omega) (by omega) (by omega)) (by omega) (by omega) (by omega))) hd186
 generalize hg186 : (pt cs177 (0 + 0 + Int.toNat x3.id * 6 + 3) [v166]) = cs186 at hb186
 refine WB_one (i := 15) (by kernel_rfl) rfl (O_st (j := 2) (v := v166) (ws := [v166]) hS rfl (by kernel_rfl) rfl rfl (repL_cells hv166) hw186 (Rep.one (repL_rep hv166)) (by omega) ?_)
 rw [hg186]
 clear hg186
 intro w185 hS
 replace hS : St w noX M157 [.box b9 cs13 48, .box b7 cx3 38, .box b5 cs186 48] w185 := hS
 have hR193 : Rd M157 [.box b7 cx3 38] w185 := Rd.of hS hG163 (by simp)
 refine ⟨fun _ => hR193, ?_⟩
 refine WB_done (by kernel_rfl) (nm_then ?_)
 refine W_reg ?_
 have ha194 := (rep_root (k := 201) rfl hb186)
 refine WL_y (Y_ldn ta48 hT158_3 (hS.bvB 2 rfl) (Rep.len ha194)) <|WL_y (Y_move (.int .i64 r27) hT158_10) ?_
 obtain ⟨r197, hr196, hz⟩ := bind_ok hz
 refine WL_c (O_mem (vs := [.agg (sl cs186 (0) 201).toArray, .int .i64 r27]) (rv := (fun M' u => ∃ cs, u = .agg cs.toArray ∧ rep M' cs r197)) cb53 (args2 rfl rfl) hS (nodeExec_ok hS.agree ha194 hr196) ?_)
 intro u196 M196 w195 hx196 hu196 hS
 obtain ⟨c196, hq196, f196⟩ := hu196
 subst hq196
 replace hcx3 := Rep.mono hx196.1 hcx3
 replace hb13 := Rep.mono hx196.1 hb13
 replace hb186 := Rep.mono hx196.1 hb186
 replace ha194 := Rep.mono hx196.1 ha194
 replace hE := Mm.ext.trans hE hx196
 replace hF152 := Mm.ext.trans hF152 hx196
 have hw199 : (c196 : List Value).length = 201 := Rep.len f196
 have hl199 : (cs186).length = 201 := Rep.len hb186
 obtain ⟨d200, hd199, hz⟩ := bind_ok hz
 have hb199 : rep M196 (pt cs186 (0) c196) d200 := rep_eq (rep_whole (k := 201) (by rw [pt_length (by omega)]; exact hl199) (rep_leaf rfl f196 (by omega))) hd199
 generalize hg199 : (pt cs186 (0) c196) = cs199 at hb199
 refine WL_c (O_st (j := 2) (v := .agg c196.toArray) (ws := c196) hS rfl (by kernel_rfl) hT158_3 rfl rfl hw199 (Rep.one f196) (by omega) ?_)
 rw [hg199]
 clear hg199
 intro w198 hS
 replace hS : St w noX M196 [.box b9 cs13 48, .box b7 cx3 38, .box b5 cs199 48] w198 := hS
 refine WL_nil (nm_then ?_)
 exact ⟨M196, cs199, d200, hF152, hS, hb199, hT158_1, hT158_3, hT158_5, hT158_6, hT158_10, hz⟩
 replace hz := bif_ok_f hz hc155
 refine W_skip (nm_then ?_)
 exact ⟨M11, cx1, x1, hF152, hS, hcx1, hT12_1, hT12_3, hT12_5, hT12_6, rfl, hz⟩
 rintro T101 w99 ⟨M100, cs102, d103, hx104, hS, hb102, hT101_1, hT101_3, hT101_5, hT101_6, hT101_10, hz⟩
 replace hcx3 := Rep.mono hx104.1 hcx3
 replace hb13 := Rep.mono hx104.1 hb13
 replace hE := Mm.ext.trans hE hx104
 rw [nodeTake_j4] at hz
 refine W_seq <|W_reg <|WL_y (Y_move (.int .i64 x2) hT101_1) <|WL_y (Y_fa fa38_2 hT101_5) <|WL_y (Y_ld1 (.int .i64 x3.id) ts3 rfl (hS.bvB 1 rfl) (GFrame.p2 (rep_root (k := 7) rfl hcx3))) ?_
 have k105_0 := GFrame.w0 (Zr.zr : rep M100 (Zr.zc GFrame) (Zr.zd : GFrame)) (show rep M100 [Value.int .i64 4] (4 : Int) from rfl)
 have k105_1 := GFrame.w1 k105_0 (show rep M100 [Value.int .i64 x2] (x2 : Int) from rfl)
 have k105_2 := GFrame.w2 k105_1 (show rep M100 [Value.int .i64 x3.id] (x3.id : Int) from rfl)
 obtain ⟨d106, hd105, hz⟩ := bind_ok hz
 obtain ⟨cs105, hf105, ha105⟩ : ∃ cs, fillZ (([(0, 1), (1, 1), (2, 1), (3, 1), (4, 1), (5, 1), (6, 1)] : List (Nat × Nat))[·]?) (Zr.zc GFrame) [(0, .int .i64 4), (1, .int .i64 x2), (2, .int .i64 x3.id)] = some cs ∧ rep M100 cs d106 := ⟨_, (fz_cons (Zr.zr : rep M100 (Zr.zc GFrame) (Zr.zd : GFrame)) rfl rfl (Rep.len (show rep M100 [Value.int .i64 4] (4 : Int) from rfl)) (by decide) (fz_cons k105_0 rfl rfl (Rep.len (show rep M100 [Value.int .i64 x2] (x2 : Int) from rfl)) (by decide) (fz_cons k105_1 rfl rfl (Rep.len (show rep M100 [Value.int .i64 x3.id] (x3.id : Int) from rfl)) (by decide) fz_nil))), rep_eq (x := ({ kind := 4, node := x2, id := x3.id, ops := Zr.zd, deps := Zr.zd, at_ := Zr.zd, vals := Zr.zd } : GFrame)) k105_2 hd105⟩
 refine WL_y (Y_build [(0, .int .i64 4), (1, .int .i64 x2), (2, .int .i64 x3.id)] tb38 (bpc rfl (bpc rfl (bpc rfl bp0))) hf105) ?_
 refine WL_c (O_bsliceR (α := GFrame) (l := ([d106] : List GFrame)) [.agg cs105.toArray] tp25 (bpc rfl bp0) rfl rfl (by decide) (by decide) (by decide) hS (brc ha105 br0) ?_)
 intro v108 M108 w107 hx108 hv108 hS
 replace hcx3 := Rep.mono hx108.1 hcx3
 replace hb13 := Rep.mono hx108.1 hb13
 replace hb102 := Rep.mono hx108.1 hb102
 replace ha105 := Rep.mono hx108.1 ha105
 replace hE := Mm.ext.trans hE hx108
 replace hS : St w noX M108 [.row v108 38 7, .box b9 cs13 48, .box b7 cx3 38, .box b5 cs102 48] w107 := hS
 refine WL_y (Y_assign (v108) rfl) ?_
 refine WL_nil (nm_then ?_)
 refine W_seqJ (fun T' w' => ∃ M111 v114 l113, Mm.ext w.heap.size noX M108 M111 ∧ St w noX M111 [.row v114 38 7, .box b9 cs13 48, .box b7 cx3 38, .box b5 cs102 48] w' ∧ repL M111 v114 l113 ∧ T' 3 = .pointer (some ⟨b5, 0, none⟩) ∧ T' 6 = .pointer (some ⟨b9, 0, none⟩) ∧ T' 12 = v114 ∧ nodeTake_j5 d103 l113 = some r) ?_ ?_
 have hF120 := Mm.ext.refl w.heap.size noX M108
 refine W_seq <|W_reg <|WL_y (Y_fa fa38_2 hT101_5) <|WL_y (Y_ld1 (.int .i64 x3.id) ts3 rfl (hS.bvB 2 rfl) (GFrame.p2 (rep_root (k := 7) rfl hcx3))) <|WL_y (Y_fa fa48_0 hT101_3) ?_
 obtain ⟨u121, hx122, hz⟩ := bind_ok hz
 obtain ⟨hx122a, hx122b⟩ := inR_some hx122
 refine WL_y (Y_ixA ia45 rfl rfl hx122a hx122b) ?_
 obtain ⟨x123, hx124, hz⟩ := bind_ok hz
 have ha125 := (vp (k := 6) rfl rfl (GNode.p0 (rep_root (k := 201) rfl hb102)) hx124)
 refine WL_y (Y_ldn ta44 rfl (hS.bvB 3 rfl) (Rep.len ha125)) ?_
 refine WL_c (O_alloc tz44 hS ?_)
 intro b127 w126 hb127 hS
 replace hS : St w noX M108 [.box b127 (Zr.zc GEntry) 44, .row v108 38 7, .box b9 cs13 48, .box b7 cx3 38, .box b5 cs102 48] w126 := hS
 have zb127 : rep M108 (Zr.zc GEntry) (Zr.zd : GEntry) := Zr.zr
 have hw129 : ((sl cs102 (0 + 0 + Int.toNat x3.id * 6) 6) : List Value).length = 6 := Rep.len ha125
 have hl129 : ((Zr.zc GEntry)).length = 6 := Rep.len zb127
 obtain ⟨d130, hd129, hz⟩ := bind_ok hz
 have hb129 : rep M108 (pt (Zr.zc GEntry) (0) (sl cs102 (0 + 0 + Int.toNat x3.id * 6) 6)) d130 := rep_eq (rep_whole (k := 6) (by rw [pt_length (by omega)]; exact hl129) (rep_leaf rfl ha125 (by omega))) hd129
 generalize hg129 : (pt (Zr.zc GEntry) (0) (sl cs102 (0 + 0 + Int.toNat x3.id * 6) 6)) = cs129 at hb129
 refine WL_c (O_st (j := 0) (v := .agg (sl cs102 (0 + 0 + Int.toNat x3.id * 6) 6).toArray) (ws := (sl cs102 (0 + 0 + Int.toNat x3.id * 6) 6)) hS rfl (by kernel_rfl) rfl rfl rfl hw129 (Rep.one ha125) (by omega) ?_)
 rw [hg129]
 clear hg129
 intro w128 hS
 replace hS : St w noX M108 [.box b127 cs129 44, .row v108 38 7, .box b9 cs13 48, .box b7 cx3 38, .box b5 cs102 48] w128 := hS
 refine WL_nil (nm_then ?_)
 refine W_seqJ (fun T' w' => ∃ M132 c134, Mm.ext w.heap.size noX M108 M132 ∧ St w noX M132 [.box b127 cs129 44, .row v108 38 7, .box b9 cs13 48, .box b7 cx3 38, .box b5 cs102 48] w' ∧ T' 1 = .int .i64 x2 ∧ T' 3 = .pointer (some ⟨b5, 0, none⟩) ∧ T' 5 = .pointer (some ⟨b7, 0, none⟩) ∧ T' 6 = .pointer (some ⟨b9, 0, none⟩) ∧ T' 12 = v108 ∧ T' 13 = .pointer (some ⟨b127, 0, none⟩) ∧ T' 134 = .bool c134 ∧ nodeTake_j6 x2 x3 d103 d106 d130 c134 = some r) ?_ ?_
 have hF146 := Mm.ext.refl w.heap.size noX M108
 refine W_reg <|WL_y (Y_fa fa44_0 rfl) <|WL_y (Y_ld1 (.int .i64 d130.state) ts3 rfl (hS.bvB 0 rfl) (GEntry.p0 (rep_root (k := 6) rfl hb129))) <|WL_y (Y_eql rfl rfl) <|WL_y (Y_move (.bool (d130.state == 3)) rfl) ?_
 rcases ic hz with ⟨hc147, hz⟩ | ⟨hc147, hz⟩ <;> rw [hc147]
 refine WL_gy rfl rfl (Y_fa fa44_1 rfl) ?_
 obtain ⟨v148, ev148, hv148⟩ := (GEntry.p1 (rep_root (k := 6) rfl hb129))
 refine WL_gy rfl rfl (Y_ld1 v148 ts22 rfl (hS.bvB 0 rfl) ev148) <|WL_gy rfl rfl (Y_move (.int .i64 r27) hT101_10) ?_
 obtain ⟨r151, hr150, hz⟩ := bind_ok hz
 replace hr150 := Option.some.inj hr150
 refine WL_g rfl rfl (O_val (vs := [v148, .int .i64 r27]) (v := .bool r151) cb44 (args2 rfl rfl) hS (hr150 ▸ (c_touches hS.agree hv148)) ?_)
 intro w149 hS
 refine WL_y (Y_pick_t (.bool r151) rfl rfl) ?_
 refine WL_nil (nm_then ?_)
 exact ⟨M108, r151, hF146, hS, hT101_1, hT101_3, hT101_5, hT101_6, rfl, rfl, rfl, hz⟩
 refine WL_d 5 rfl ?_
 refine WL_nil (nm_then ?_)
 exact ⟨M108, false, hF146, hS, hT101_1, hT101_3, hT101_5, hT101_6, rfl, rfl, rfl, hz⟩
 rintro T133 w131 ⟨M132, c134, hx135, hS, hT133_1, hT133_3, hT133_5, hT133_6, hT133_12, hT133_13, hT133_134, hz⟩
 replace hcx3 := Rep.mono hx135.1 hcx3
 replace hb13 := Rep.mono hx135.1 hb13
 replace hb102 := Rep.mono hx135.1 hb102
 replace hv108 := repL.mono hx135.1 hv108
 replace hb129 := Rep.mono hx135.1 hb129
 replace hE := Mm.ext.trans hE hx135
 replace hF120 := Mm.ext.trans hF120 hx135
 rw [nodeTake_j6] at hz
 refine W_cond hT133_134 (fun hc136 => ?_) (fun hc136 => ?_)
 replace hz := bif_ok_t hz hc136
 refine W_reg <|WL_y (Y_move (v108) hT133_12) <|WL_y (Y_move (.int .i64 x2) hT133_1) <|WL_y (Y_fa fa38_2 hT133_5) <|WL_y (Y_ld1 (.int .i64 x3.id) ts3 rfl (hS.bvB 3 rfl) (GFrame.p2 (rep_root (k := 7) rfl hcx3))) <|WL_y (Y_fa fa44_4 hT133_13) ?_
 obtain ⟨v137, ev137, hv137⟩ := (GEntry.p4 (rep_root (k := 6) rfl hb129))
 refine WL_y (Y_ld1 v137 ts27 rfl (hS.bvB 0 rfl) ev137) <|WL_y (Y_fa fa44_5 hT133_13) ?_
 obtain ⟨v138, ev138, hv138⟩ := (GEntry.p5 (rep_root (k := 6) rfl hb129))
 refine WL_y (Y_ld1 v138 ts27 rfl (hS.bvB 0 rfl) ev138) ?_
 have k139_0 := GFrame.w0 (Zr.zr : rep M132 (Zr.zc GFrame) (Zr.zd : GFrame)) (show rep M132 [Value.int .i64 5] (5 : Int) from rfl)
 have k139_1 := GFrame.w1 k139_0 (show rep M132 [Value.int .i64 x2] (x2 : Int) from rfl)
 have k139_2 := GFrame.w2 k139_1 (show rep M132 [Value.int .i64 x3.id] (x3.id : Int) from rfl)
 have k139_3 := GFrame.w5 k139_2 (repL_rep hv137)
 have k139_4 := GFrame.w6 k139_3 (repL_rep hv138)
 obtain ⟨d140, hd139, hz⟩ := bind_ok hz
 obtain ⟨cs139, hf139, ha139⟩ : ∃ cs, fillZ (([(0, 1), (1, 1), (2, 1), (3, 1), (4, 1), (5, 1), (6, 1)] : List (Nat × Nat))[·]?) (Zr.zc GFrame) [(0, .int .i64 5), (1, .int .i64 x2), (2, .int .i64 x3.id), (5, v137), (6, v138)] = some cs ∧ rep M132 cs d140 := ⟨_, (fz_cons (Zr.zr : rep M132 (Zr.zc GFrame) (Zr.zd : GFrame)) rfl rfl (Rep.len (show rep M132 [Value.int .i64 5] (5 : Int) from rfl)) (by decide) (fz_cons k139_0 rfl rfl (Rep.len (show rep M132 [Value.int .i64 x2] (x2 : Int) from rfl)) (by decide) (fz_cons k139_1 rfl rfl (Rep.len (show rep M132 [Value.int .i64 x3.id] (x3.id : Int) from rfl)) (by decide) (fz_cons k139_2 rfl (repL_cells hv137) (Rep.len (repL_rep hv137)) (by decide) (fz_cons k139_3 rfl (repL_cells hv138) (Rep.len (repL_rep hv138)) (by decide) fz_nil))))), rep_eq (x := ({ kind := 5, node := x2, id := x3.id, ops := Zr.zd, deps := Zr.zd, at_ := d130.at_, vals := d130.values } : GFrame)) k139_4 hd139⟩
 refine WL_y (Y_build [(0, .int .i64 5), (1, .int .i64 x2), (2, .int .i64 x3.id), (5, v137), (6, v138)] tb38 (bpc rfl (bpc rfl (bpc rfl (bpc rfl (bpc rfl bp0))))) hf139) ?_
 refine WL_c (O_bslice (α := GFrame) (l := ([d140] : List GFrame)) [.agg cs139.toArray] tl25 (bpc rfl bp0) rfl rfl (by decide) (by decide) (by decide) hS (brc ha139 br0) ?_)
 intro v142 M142 w141 hx142 hv142 hS
 replace hcx3 := Rep.mono hx142.1 hcx3
 replace hb13 := Rep.mono hx142.1 hb13
 replace hb102 := Rep.mono hx142.1 hb102
 replace hv108 := repL.mono hx142.1 hv108
 replace hb129 := Rep.mono hx142.1 hb129
 replace hv137 := repL.mono hx142.1 hv137
 replace hv138 := repL.mono hx142.1 hv138
 replace ha139 := Rep.mono hx142.1 ha139
 replace hE := Mm.ext.trans hE hx142
 replace hF120 := Mm.ext.trans hF120 hx142
 obtain ⟨l145, hr144, hz⟩ := bind_ok hz
 obtain ⟨hy144, hs144⟩ := app_some hr144
 refine WL_c (O_app (α := GFrame) (j := 1) tp25 hS rfl rfl rfl hv108 hv142 hy144 ?_)
 intro v144 M144 w143 hx144 hv144 hS
 rw [← hs144] at hv144
 clear hr144 hs144
 replace hcx3 := Rep.mono hx144.1 hcx3
 replace hb13 := Rep.mono hx144.1 hb13
 replace hb102 := Rep.mono hx144.1 hb102
 replace hv108 := repL.mono hx144.1 hv108
 replace hb129 := Rep.mono hx144.1 hb129
 replace hv137 := repL.mono hx144.1 hv137
 replace hv138 := repL.mono hx144.1 hv138
 replace ha139 := Rep.mono hx144.1 ha139
 replace hv142 := repL.mono hx144.1 hv142
 replace hE := Mm.ext.trans hE hx144
 replace hF120 := Mm.ext.trans hF120 hx144
 replace hS : St w noX M144 [.box b127 cs129 44, .row v144 38 7, .box b9 cs13 48, .box b7 cx3 38, .box b5 cs102 48] w143 := hS
 refine WL_y (Y_assign (v144) rfl) ?_
 refine WL_nil (nm_then ?_)
 exact ⟨M144, v144, l145, hF120, (St.dropB hS hb127), hv144, hT133_3, hT133_6, rfl, hz⟩
 replace hz := bif_ok_f hz hc136
 refine W_skip (nm_then ?_)
 exact ⟨M132, v108, ([d106] : List GFrame), hF120, (St.dropB hS hb127), hv108, hT133_3, hT133_6, hT133_12, hz⟩
 rintro T112 w110 ⟨M111, v114, l113, hx115, hS, hv114, hT112_3, hT112_6, hT112_12, hz⟩
 replace hcx3 := Rep.mono hx115.1 hcx3
 replace hb13 := Rep.mono hx115.1 hb13
 replace hb102 := Rep.mono hx115.1 hb102
 replace hE := Mm.ext.trans hE hx115
 rw [nodeTake_j5] at hz
 refine W_seq <|W_reg ?_
 have ha116 := (rep_root (k := 201) rfl hb102)
 refine WL_y (Y_ldn ta48 hT112_3 (hS.bvB 3 rfl) (Rep.len ha116)) <|WL_y (Y_move (v114) hT112_12) ?_
 have hw118 : ((sl cs102 (0) 201) : List Value).length = 201 := Rep.len ha116
 have hl118 : (cs13).length = 201 := Rep.len hb13
 obtain ⟨d119, hd118, hz⟩ := bind_ok hz
 have hb118 : rep M111 (pt cs13 (0) (sl cs102 (0) 201)) d119 := rep_eq (rep_whole (k := 201) (by rw [pt_length (by omega)]; exact hl118) (rep_leaf rfl ha116 (by omega))) hd118
 generalize hg118 : (pt cs13 (0) (sl cs102 (0) 201)) = cs118 at hb118
 refine WL_c (O_st (j := 1) (v := .agg (sl cs102 (0) 201).toArray) (ws := (sl cs102 (0) 201)) hS rfl (by kernel_rfl) hT112_6 rfl rfl hw118 (Rep.one ha116) (by omega) ?_)
 rw [hg118]
 clear hg118
 intro w117 hS
 replace hS : St w noX M111 [.row v114 38 7, .box b9 cs118 48, .box b7 cx3 38, .box b5 cs102 48] w117 := hS
 refine WL_d 2 rfl ?_
 refine WL_nil (nm_then ?_)
 cases hz
 exact W_ret (rt_blk (rt_then (R_ctt (j := 1) rfl hT112_6 rfl rfl (by rw [Rep.len hb118]; exact ta48) hS rfl (Gives.mk (St.dropB (St.dropB (St.dropB (St.drop hS) hb9) hb7) hb5) hE ⟨_, _, rfl, hb118, hv114⟩))))
 replace hz := bif_ok_f hz hc98
 refine W_skip (nm_blk ?_)
 refine (nm_then ?_)
 refine W_seq <|W_reg ?_
 have ha218 := (rep_root (k := 201) rfl hcx1)
 refine WL_y (Y_ldn ta48 hT12_3 (hS.bvB 2 rfl) (Rep.len ha218)) ?_
 have hw220 : ((sl cx1 (0) 201) : List Value).length = 201 := Rep.len ha218
 have hl220 : (cs13).length = 201 := Rep.len hb13
 obtain ⟨d221, hd220, hz⟩ := bind_ok hz
 have hb220 : rep M11 (pt cs13 (0) (sl cx1 (0) 201)) d221 := rep_eq (rep_whole (k := 201) (by rw [pt_length (by omega)]; exact hl220) (rep_leaf rfl ha218 (by omega))) hd220
 generalize hg220 : (pt cs13 (0) (sl cx1 (0) 201)) = cs220 at hb220
 refine WL_c (O_st (j := 0) (v := .agg (sl cx1 (0) 201).toArray) (ws := (sl cx1 (0) 201)) hS rfl (by kernel_rfl) hT12_6 rfl rfl hw220 (Rep.one ha218) (by omega) ?_)
 rw [hg220]
 clear hg220
 intro w219 hS
 replace hS : St w noX M11 [.box b9 cs220 48, .box b7 cx3 38, .box b5 cx1 48] w219 := hS
 refine WL_d 2 rfl ?_
 refine WL_nil (nm_then ?_)
 cases hz
 exact W_ret (R_ctt (j := 0) rfl hT12_6 rfl rfl (by rw [Rep.len hb220]; exact ta48) hS rfl (Gives.mk (St.dropB (St.dropB (St.dropB hS hb9) hb7) hb5) hE ⟨_, _, rfl, hb220, (repL_nil _)⟩))
end Go.Proofs.Ytopgdemmdcipcaa
namespace Go.Proofs.Ytopgdemmdcipcaa
inductive Path (E : Nat → Nat → Prop) : Nat → Nat → Prop where
  | refl (a : Nat) : Path E a a
  | tail {a b c : Nat} : Path E a b → E b c → Path E a c
section
variable {E : Nat → Nat → Prop}
theorem Path.trans {a b c : Nat} (h : Path E a b) (k : Path E b c) : Path E a c := by
  induction k with
  | refl => exact h
  | tail _ e ih => exact .tail ih e
theorem Path.one {a b : Nat} (h : E a b) : Path E a b := .tail (.refl a) h
theorem Path.head {a b c : Nat} (h : E a b) (k : Path E b c) : Path E a c := (Path.one h).trans k
theorem Path.closed {S : Nat → Prop} (hS : ∀ a b, S a → E a b → S b) {a b : Nat} (h : Path E a b) (ha : S a) : S b := by
  induction h with
  | refl => exact ha
  | tail _ e ih => exact hS _ _ ih e
structure Srch where
  mark : Nat → Nat
  low : Nat → Nat
  ring : Nat → Nat
  stack : List Nat
  next : Nat
def updN {α : Type} (f : Nat → α) (i : Nat) (x : α) : Nat → α := fun k => if k = i then x else f k
theorem updN_same {α : Type} (f : Nat → α) (i : Nat) (x : α) : updN f i x i = x := by simp [updN]
theorem updN_other {α : Type} (f : Nat → α) {i k : Nat} (x : α) (h : k ≠ i) : updN f i x k = f k := by simp [updN, h]
def Least (E : Nat → Nat → Prop) (v r : Nat) : Prop := Path E v r ∧ Path E r v ∧ ∀ w, Path E v w → Path E w v → r ≤ w
def wh (f : Nat → Nat) : Nat := (List.range 32).countP (fun i => f i == 0)
theorem countP_turn {p q : Nat → Bool} {n : Nat} (hp : p n = true) (hq : q n = false) (ho : ∀ k, k ≠ n → p k = q k) : ∀ (l : List Nat), l.Nodup → n ∈ l → l.countP p = l.countP q + 1 := by
  have hsame : ∀ (l : List Nat), n ∉ l → l.countP p = l.countP q := by
    intro l
    induction l with
    | nil => intro _; rfl
    | cons a t ih =>
      intro hn
      simp only [List.mem_cons, not_or] at hn
      rw [List.countP_cons, List.countP_cons, ih hn.2, ho a (fun e => hn.1 e.symm)]
  intro l
  induction l with
  | nil => intro _ h; cases h
  | cons a t ih =>
    intro hnd hm
    rw [List.nodup_cons] at hnd
    rw [List.countP_cons, List.countP_cons]
    by_cases e : a = n
    · subst e
      rw [hsame t hnd.1, hp, hq]
      simp
    · have hmt : n ∈ t := by
        rcases List.mem_cons.1 hm with h | h
        · exact absurd h.symm e
        · exact h
      rw [ih hnd.2 hmt, ho a e]
      omega
theorem countP_le {p q : Nat → Bool} (h : ∀ k, p k = true → q k = true) (l : List Nat) : l.countP p ≤ l.countP q := by
  induction l with
  | nil => exact Nat.le_refl _
  | cons a t ih =>
    rw [List.countP_cons, List.countP_cons]
    cases hp : p a with
    | false => simp; omega
    | true => rw [h a hp]; simp; omega
theorem wh_updN {f : Nat → Nat} {n x : Nat} (hn : n < 32) (h0 : f n = 0) (hx : 0 < x) : wh f = wh (updN f n x) + 1 := by
  unfold wh
  refine countP_turn (n := n) (by simp [h0]) ?_ (fun k hk => by rw [updN_other _ _ hk]) _ List.nodup_range (List.mem_range.2 hn)
  rw [updN_same]
  simp
  omega
theorem wh_mono {f f' : Nat → Nat} (h : ∀ v, 0 < f v → 0 < f' v) : wh f' ≤ wh f := by
  unfold wh
  refine countP_le (fun k hk => ?_) _
  have hk' : f' k = 0 := by simpa using hk
  have : f k = 0 := by
    rcases Nat.eq_zero_or_pos (f k) with h0 | h0
    · exact h0
    · have := h k h0; omega
  simp [this]
structure Inv (E : Nat → Nat → Prop) (s : Srch) (G : List Nat) : Prop where
  lt : ∀ v, 0 < s.mark v → v < 32
  le : ∀ v, s.mark v ≤ s.next
  inj : ∀ u v, s.mark u = s.mark v → 0 < s.mark u → u = v
  cnt : s.next + wh s.mark ≤ 32
  sorted : s.stack.Pairwise (fun a b => s.mark a < s.mark b)
  pos : ∀ v ∈ s.stack, 0 < s.mark v
  gray : ∀ g ∈ G, g ∈ s.stack
  black : ∀ v w, 0 < s.mark v → v ∉ G → E v w → 0 < s.mark w
  done : ∀ v w, 0 < s.mark v → v ∉ s.stack → E v w → w ∉ s.stack
  ring : ∀ v, 0 < s.mark v → v ∉ s.stack → Least E v (s.ring v)
  reach : ∀ x ∈ G, ∀ y ∈ s.stack, s.mark x ≤ s.mark y → Path E x y
  back : ∀ y ∈ s.stack, ∃ x ∈ G, s.mark x ≤ s.mark y ∧ Path E y x
structure Ext (E : Nat → Nat → Prop) (s s' : Srch) (n : Nat) : Prop where
  mark_old : ∀ v, 0 < s.mark v → s'.mark v = s.mark v
  low_old : ∀ v, 0 < s.mark v → s'.low v = s.low v
  fresh : ∀ v, s.mark v = 0 → 0 < s'.mark v → s.next < s'.mark v ∧ Path E n v
  next : s.next ≤ s'.next
structure Post (E : Nat → Nat → Prop) (s s' : Srch) (n : Nat) (G : List Nat) : Prop where
  inv : Inv E s' G
  ext : Ext E s s' n
  mine : 0 < s'.mark n
  low_le : s'.low n ≤ s'.mark n
  low_or : s'.low n = s'.mark n ∨ ∃ z ∈ s.stack, s'.mark z = s'.low n ∧ Path E n z
  stack : ∃ new, s'.stack = s.stack ++ new ∧ ∀ y ∈ new, ∀ z ∈ s.stack, E y z → s'.low n ≤ s'.mark z
structure LI (E : Nat → Nat → Prop) (s : Srch) (G : List Nat) (n : Nat) (t : Srch) (ds : Nat → Prop) : Prop where
  was : Inv E s G
  white : s.mark n = 0
  inv : Inv E t (n :: G)
  ext : Ext E s t n
  nmark : t.mark n = s.next + 1
  low_le : t.low n ≤ t.mark n
  low_or : t.low n = t.mark n ∨ ∃ z ∈ s.stack, t.mark z = t.low n ∧ Path E n z
  stack : ∃ new, t.stack = s.stack ++ n :: new ∧ ∀ y ∈ new, ∀ z ∈ s.stack, E y z → t.low n ≤ t.mark z
  proc : ∀ d, ds d → 0 < t.mark d ∧ (d ∈ s.stack → t.low n ≤ t.mark d)
def startT (s : Srch) (n : Nat) : Srch := { mark := updN s.mark n (s.next + 1), low := updN s.low n (s.next + 1), ring := s.ring, stack := s.stack ++ [n], next := s.next + 1 }
theorem LI.start {s : Srch} {G : List Nat} {n : Nat} (h : Inv E s G) (hn : n < 32) (h0 : s.mark n = 0) (hG : ∀ g ∈ G, Path E g n) : LI E s G n (startT s n) (fun _ => False) := by
  have hns : n ∉ s.stack := fun hm => by have := h.pos n hm; omega
  have hmk : ∀ v, v ≠ n → (startT s n).mark v = s.mark v := fun v hv => updN_other _ _ hv
  have hmn : (startT s n).mark n = s.next + 1 := updN_same _ _ _
  have hne : ∀ v, 0 < s.mark v → v ≠ n := fun v hv e => by subst e; omega
  have hst : (startT s n).stack = s.stack ++ [n] := rfl
  refine ⟨h, h0, ⟨fun v hv => ?_, fun v => ?_, fun u v huv hu => ?_, ?_, ?_, fun v hv => ?_, fun g hg => ?_, fun v w hv hg he => ?_, fun v w hv hs he => ?_, fun v hv hs => ?_, fun x hx y hy hxy => ?_, fun y hy => ?_⟩, ⟨fun v hv => hmk v (hne v hv), fun v hv => updN_other _ _ (hne v hv), fun v hv hv' => ?_, Nat.le_succ _⟩, hmn, ?_, .inl ?_, ⟨[], rfl, by simp⟩, fun d hd => hd.elim⟩
  · by_cases e : v = n
    · subst e; exact hn
    · rw [hmk v e] at hv; exact h.lt v hv
  · show _ ≤ s.next + 1
    by_cases e : v = n
    · subst e; rw [hmn]; exact Nat.le_refl _
    · rw [hmk v e]; have := h.le v; omega
  · by_cases e1 : u = n
    · by_cases e2 : v = n
      · rw [e1, e2]
      · subst e1; rw [hmn, hmk v e2] at huv; have := h.le v; omega
    · by_cases e2 : v = n
      · subst e2; rw [hmn, hmk u e1] at huv; have := h.le u; omega
      · rw [hmk u e1, hmk v e2] at huv; rw [hmk u e1] at hu; exact h.inj u v huv hu
  · have := wh_updN (x := s.next + 1) hn h0 (by omega)
    have hc := h.cnt
    show s.next + 1 + wh (updN s.mark n (s.next + 1)) ≤ 32
    omega
  · rw [hst, List.pairwise_append]
    refine ⟨?_, List.pairwise_singleton _ _, fun a ha b hb => ?_⟩
    · refine List.Pairwise.imp_of_mem (fun {a b} ha hb hab => ?_) h.sorted
      rw [hmk a (fun e => hns (e ▸ ha)), hmk b (fun e => hns (e ▸ hb))]
      exact hab
    · rw [List.mem_singleton] at hb
      subst hb
      rw [hmn, hmk a (fun e => hns (e ▸ ha))]
      have := h.le a; omega
  · rw [hst, List.mem_append, List.mem_singleton] at hv
    rcases hv with hv | rfl
    · have := h.pos v hv
      rw [hmk v (hne v this)]; exact this
    · rw [hmn]; omega
  · rw [hst, List.mem_append, List.mem_singleton]
    rcases List.mem_cons.1 hg with rfl | hg
    · exact .inr rfl
    · exact .inl (h.gray g hg)
  · simp only [List.mem_cons, not_or] at hg
    rw [hmk v hg.1] at hv
    have := h.black v w hv hg.2 he
    rw [hmk w (hne w this)]; exact this
  · rw [hst, List.mem_append, List.mem_singleton, not_or] at hs
    rw [hmk v hs.2] at hv
    rw [hst, List.mem_append, List.mem_singleton, not_or]
    refine ⟨h.done v w hv hs.1 he, fun e => ?_⟩
    subst e
    have hvG : v ∉ G := fun hg => hs.1 (h.gray v hg)
    have := h.black v w hv hvG he
    omega
  · rw [hst, List.mem_append, List.mem_singleton, not_or] at hs
    rw [hmk v hs.2] at hv
    exact h.ring v hv hs.1
  · rw [hst, List.mem_append, List.mem_singleton] at hy
    rcases List.mem_cons.1 hx with rfl | hx2
    · rcases hy with hy | rfl
      · have hp := h.pos y hy
        rw [hmn, hmk y (hne y hp)] at hxy
        have := h.le y; omega
      · exact .refl _
    · rcases hy with hy | rfl
      · have hp := h.pos y hy
        have hpx := h.pos x (h.gray x hx2)
        rw [hmk x (hne x hpx), hmk y (hne y hp)] at hxy
        exact h.reach x hx2 y hy hxy
      · exact hG x hx2
  · rw [hst, List.mem_append, List.mem_singleton] at hy
    rcases hy with hy | rfl
    · obtain ⟨x, hx, hxy, hp⟩ := h.back y hy
      have hpx := h.pos x (h.gray x hx)
      refine ⟨x, List.mem_cons_of_mem _ hx, ?_, hp⟩
      rw [hmk x (hne x hpx), hmk y (hne y (h.pos y hy))]
      exact hxy
    · exact ⟨y, List.mem_cons_self, Nat.le_refl _, .refl _⟩
  · by_cases e : v = n
    · subst e; rw [hmn]; exact ⟨by omega, .refl _⟩
    · rw [hmk v e] at hv'; omega
  · rw [hmn]; show updN s.low n (s.next + 1) n ≤ _; rw [updN_same]; exact Nat.le_refl _
  · rw [hmn]; exact updN_same _ _ _
theorem Inv.low {s : Srch} {G : List Nat} (h : Inv E s G) (l : Nat → Nat) : Inv E { s with low := l } G :=
  ⟨h.lt, h.le, h.inj, h.cnt, h.sorted, h.pos, h.gray, h.black, h.done, h.ring, h.reach, h.back⟩
section
variable {s t : Srch} {G : List Nat} {n : Nat} {ds : Nat → Prop}
theorem LI.old (h : LI E s G n t ds) {z : Nat} (hz : z ∈ s.stack) : 0 < s.mark z ∧ t.mark z = s.mark z ∧ t.mark z < t.mark n := by
  have h1 := h.was.pos z hz
  have h2 := h.ext.mark_old z h1
  have h3 := h.was.le z
  refine ⟨h1, h2, ?_⟩
  rw [h2, h.nmark]
  omega
theorem LI.new (h : LI E s G n t ds) {new : List Nat} (hst : t.stack = s.stack ++ n :: new) {y : Nat} (hy : y ∈ n :: new) : t.mark n ≤ t.mark y := by
  have h1 := h.inv.sorted
  rw [hst, List.pairwise_append] at h1
  rcases List.mem_cons.1 hy with rfl | hy
  · exact Nat.le_refl _
  · exact Nat.le_of_lt ((List.pairwise_cons.1 h1.2.1).1 y hy)
theorem LI.visit {t' : Srch} {d : Nat} (h : LI E s G n t ds) (hd0 : t.mark d = 0) (he : E n d) (hp : Post E t t' d (n :: G)) :
    LI E s G n { t' with low := updN t'.low n (min (t'.low n) (t'.low d)) } (fun x => ds x ∨ x = d) := by
  have hn0 : 0 < t.mark n := by rw [h.nmark]; omega
  have hmn : t'.mark n = t.mark n := hp.ext.mark_old n hn0
  have hln : t'.low n = t.low n := hp.ext.low_old n hn0
  have hmd := hp.ext.fresh d hd0 hp.mine
  have hnn : t.mark n ≤ t.next := h.inv.le n
  obtain ⟨new, hst, hnew⟩ := h.stack
  obtain ⟨newd, hst', hnew'⟩ := hp.stack
  have hlow2 : (updN t'.low n (min (t'.low n) (t'.low d))) n = min (t.low n) (t'.low d) := by rw [updN_same, hln]
  refine ⟨h.was, h.white, hp.inv.low _, ⟨fun v hv => ?_, fun v hv => ?_, fun v hv hv' => ?_, Nat.le_trans h.ext.next hp.ext.next⟩, by rw [← h.nmark]; exact hmn, ?_, ?_, ⟨new ++ newd, ?_, fun y hy z hz hyz => ?_⟩, fun x hx => ?_⟩
  · have h1 := h.ext.mark_old v hv
    rw [hp.ext.mark_old v (by omega)]; exact h1
  · have h1 := h.ext.mark_old v hv
    have hvn : v ≠ n := fun e => by subst e; rw [h.white] at hv; omega
    show updN t'.low n _ v = _
    rw [updN_other _ _ hvn, hp.ext.low_old v (by omega)]
    exact h.ext.low_old v hv
  · rcases Nat.eq_zero_or_pos (t.mark v) with h0 | h0
    · have h1 := hp.ext.fresh v h0 hv'
      have h2 := h.ext.next
      exact ⟨by show s.next < t'.mark v; omega, Path.head he h1.2⟩
    · have h1 := hp.ext.mark_old v h0
      have h2 := h.ext.fresh v hv h0
      exact ⟨by show s.next < t'.mark v; rw [h1]; exact h2.1, h2.2⟩
  · show updN t'.low n _ n ≤ t'.mark n
    rw [hlow2, hmn]
    exact Nat.le_trans (Nat.min_le_left _ _) h.low_le
  · show updN t'.low n _ n = t'.mark n ∨ ∃ z ∈ s.stack, t'.mark z = updN t'.low n _ n ∧ Path E n z
    rw [hlow2, hmn]
    by_cases hle : t.low n ≤ t'.low d
    · rw [Nat.min_eq_left hle]
      rcases h.low_or with h1 | ⟨z, hz, h1, h2⟩
      · exact .inl h1
      · have h3 := h.old hz
        exact .inr ⟨z, hz, by rw [hp.ext.mark_old z (by omega)]; exact h1, h2⟩
    · rw [Nat.min_eq_right (by omega)]
      have hll := h.low_le
      rcases hp.low_or with h1 | ⟨z, hz, h1, h2⟩
      · omega
      · refine .inr ⟨z, ?_, h1, Path.head he h2⟩
        have hz' := hz
        rw [hst] at hz'
        rcases List.mem_append.1 hz' with h3 | h3
        · exact h3
        · have h4 := h.new hst h3
          have h5 := hp.ext.mark_old z (h.inv.pos z hz)
          omega
  · show t'.stack = _
    rw [hst', hst]
    simp
  · show updN t'.low n _ n ≤ t'.mark z
    rw [hlow2]
    have h3 := h.old hz
    have h4 := hp.ext.mark_old z (by omega)
    rcases List.mem_append.1 hy with hy | hy
    · have := hnew y hy z hz hyz
      rw [h4]
      exact Nat.le_trans (Nat.min_le_left _ _) this
    · have := hnew' y hy z (by rw [hst]; exact List.mem_append_left _ hz) hyz
      exact Nat.le_trans (Nat.min_le_right _ _) this
  · show 0 < t'.mark x ∧ (x ∈ s.stack → updN t'.low n _ n ≤ t'.mark x)
    rw [hlow2]
    rcases hx with hx | rfl
    · have h1 := h.proc x hx
      have h2 := hp.ext.mark_old x h1.1
      rw [h2]
      exact ⟨h1.1, fun hs => Nat.le_trans (Nat.min_le_left _ _) (h1.2 hs)⟩
    · exact ⟨hp.mine, fun hs => by have := h.old hs; omega⟩
theorem LI.on {d : Nat} (h : LI E s G n t ds) (hd : d ∈ t.stack) (he : E n d) :
    LI E s G n { t with low := updN t.low n (min (t.low n) (t.mark d)) } (fun x => ds x ∨ x = d) := by
  obtain ⟨new, hst, hnew⟩ := h.stack
  have hlow2 : (updN t.low n (min (t.low n) (t.mark d))) n = min (t.low n) (t.mark d) := updN_same _ _ _
  refine ⟨h.was, h.white, h.inv.low _, ⟨h.ext.mark_old, fun v hv => ?_, h.ext.fresh, h.ext.next⟩, h.nmark, ?_, ?_, ⟨new, hst, fun y hy z hz hyz => ?_⟩, fun x hx => ?_⟩
  · have hvn : v ≠ n := fun e => by subst e; rw [h.white] at hv; omega
    show updN t.low n _ v = _
    rw [updN_other _ _ hvn]
    exact h.ext.low_old v hv
  · show updN t.low n _ n ≤ t.mark n
    rw [hlow2]
    exact Nat.le_trans (Nat.min_le_left _ _) h.low_le
  · show updN t.low n _ n = t.mark n ∨ ∃ z ∈ s.stack, t.mark z = updN t.low n _ n ∧ Path E n z
    rw [hlow2]
    by_cases hle : t.low n ≤ t.mark d
    · rw [Nat.min_eq_left hle]; exact h.low_or
    · rw [Nat.min_eq_right (by omega)]
      have hll := h.low_le
      refine .inr ⟨d, ?_, rfl, Path.one he⟩
      have hd' := hd
      rw [hst] at hd'
      rcases List.mem_append.1 hd' with h3 | h3
      · exact h3
      · have h4 := h.new hst h3
        omega
  · show updN t.low n _ n ≤ t.mark z
    rw [hlow2]
    exact Nat.le_trans (Nat.min_le_left _ _) (hnew y hy z hz hyz)
  · show 0 < t.mark x ∧ (x ∈ s.stack → updN t.low n _ n ≤ t.mark x)
    rw [hlow2]
    rcases hx with hx | rfl
    · have h1 := h.proc x hx
      exact ⟨h1.1, fun hs => Nat.le_trans (Nat.min_le_left _ _) (h1.2 hs)⟩
    · exact ⟨h.inv.pos x hd, fun _ => Nat.min_le_right _ _⟩
theorem LI.skip {d : Nat} (h : LI E s G n t ds) (hm : 0 < t.mark d) (hd : d ∉ t.stack) : LI E s G n t (fun x => ds x ∨ x = d) := by
  obtain ⟨new, hst, hnew⟩ := h.stack
  refine ⟨h.was, h.white, h.inv, h.ext, h.nmark, h.low_le, h.low_or, h.stack, fun x hx => ?_⟩
  rcases hx with hx | rfl
  · exact h.proc x hx
  · exact ⟨hm, fun hs => absurd (by rw [hst]; exact List.mem_append_left _ hs) hd⟩
theorem LI.keep (h : LI E s G n t ds) (hall : ∀ d, E n d → ds d) (hlow : t.low n ≠ t.mark n) : Post E s t n G := by
  obtain ⟨new, hst, hnew⟩ := h.stack
  have hlt : t.low n < t.mark n := Nat.lt_of_le_of_ne h.low_le hlow
  obtain ⟨z, hz, hm, hp⟩ : ∃ z ∈ s.stack, t.mark z = t.low n ∧ Path E n z := by
    rcases h.low_or with h1 | h1
    · exact absurd h1 hlow
    · exact h1
  refine ⟨⟨h.inv.lt, h.inv.le, h.inv.inj, h.inv.cnt, h.inv.sorted, h.inv.pos, fun g hg => h.inv.gray g (List.mem_cons_of_mem _ hg), fun v w hv hg hvw => ?_, h.inv.done, h.inv.ring, fun x hx => h.inv.reach x (List.mem_cons_of_mem _ hx), fun y hy => ?_⟩, h.ext, by rw [h.nmark]; omega, h.low_le, h.low_or, ⟨n :: new, hst, fun y hy z hz hyz => ?_⟩⟩
  · by_cases e : v = n
    · subst e; exact (h.proc w (hall w hvw)).1
    · exact h.inv.black v w hv (by simp only [List.mem_cons, not_or]; exact ⟨e, hg⟩) hvw
  · obtain ⟨x, hx, hxy, p⟩ := h.inv.back y hy
    rcases List.mem_cons.1 hx with rfl | hx
    · obtain ⟨x', hx', hxz, p'⟩ := h.was.back z hz
      have h1 := h.old hz
      have h2 := h.old (h.was.gray x' hx')
      exact ⟨x', hx', by omega, (p.trans hp).trans p'⟩
    · exact ⟨x, hx, hxy, p⟩
  · rcases List.mem_cons.1 hy with rfl | hy
    · exact (h.proc z (hall z hyz)).2 hz
    · exact hnew y hy z hz hyz
theorem LI.pop (h : LI E s G n t ds) (hall : ∀ d, E n d → ds d) (hlow : t.low n = t.mark n) {new : List Nat} (hst : t.stack = s.stack ++ n :: new) {r : Nat} {ring' : Nat → Nat} (hr1 : ∀ v ∈ n :: new, ring' v = r)
    (hr2 : ∀ v, v ∉ n :: new → ring' v = t.ring v) (hmem : r ∈ n :: new) (hmin : ∀ v ∈ n :: new, r ≤ v) : Post E s { t with ring := ring', stack := s.stack } n G := by
  obtain ⟨new2, hst2, hnew⟩ := h.stack
  have e2 : new2 = new := by
    rw [hst] at hst2
    have := List.append_cancel_left hst2
    simp only [List.cons.injEq, true_and] at this
    exact this.symm
  subst e2
  have hC : ∀ y ∈ n :: new2, y ∈ t.stack := fun y hy => by rw [hst]; exact List.mem_append_right _ hy
  have hCn : ∀ y ∈ n :: new2, t.mark n ≤ t.mark y := fun y hy => h.new hst hy
  have hS : ∀ y ∈ s.stack, y ∈ t.stack := fun y hy => by rw [hst]; exact List.mem_append_left _ hy
  have hdis : ∀ y ∈ n :: new2, y ∉ s.stack := fun y hy hs => by have := hCn y hy; have := h.old hs; omega
  have hfrom : ∀ y ∈ n :: new2, Path E n y := fun y hy => h.inv.reach n List.mem_cons_self y (hC y hy) (hCn y hy)
  have hto : ∀ y ∈ n :: new2, Path E y n := fun y hy => by
    obtain ⟨x, hx, hxy, p⟩ := h.inv.back y (hC y hy)
    refine p.trans (h.inv.reach x hx n (hC n List.mem_cons_self) ?_)
    rcases List.mem_cons.1 hx with rfl | hx
    · exact Nat.le_refl _
    · have := h.old (h.was.gray x hx); omega
  have hout : ∀ y ∈ n :: new2, ∀ w, E y w → 0 < t.mark w ∧ (w ∈ n :: new2 ∨ w ∉ t.stack) := by
    intro y hy w hyw
    have hw0 : 0 < t.mark w := by
      rcases List.mem_cons.1 hy with rfl | hy'
      · exact (h.proc w (hall w hyw)).1
      · refine h.inv.black y w (h.inv.pos y (hC y hy)) ?_ hyw
        simp only [List.mem_cons, not_or]
        refine ⟨fun e => ?_, fun hg => hdis y hy (h.was.gray y hg)⟩
        subst e
        have h1 := h.inv.sorted
        rw [hst, List.pairwise_append] at h1
        exact absurd ((List.pairwise_cons.1 h1.2.1).1 y hy') (Nat.lt_irrefl _)
    refine ⟨hw0, ?_⟩
    by_cases hws : w ∈ t.stack
    · left
      have hws' := hws
      rw [hst] at hws'
      rcases List.mem_append.1 hws' with h3 | h3
      · have h4 := h.old h3
        have h5 : t.low n ≤ t.mark w := by
          rcases List.mem_cons.1 hy with rfl | hy'
          · exact (h.proc w (hall w hyw)).2 h3
          · exact hnew y hy' w h3 hyw
        omega
      · exact h3
    · exact .inr hws
  have hdone : ∀ a b, (0 < t.mark a ∧ a ∉ t.stack) → E a b → (0 < t.mark b ∧ b ∉ t.stack) := fun a b ⟨h1, h2⟩ hab =>
    ⟨h.inv.black a b h1 (fun hg => h2 (h.inv.gray a hg)) hab, h.inv.done a b h1 h2 hab⟩
  have hclosed : ∀ a b, (0 < t.mark a ∧ (a ∈ n :: new2 ∨ a ∉ t.stack)) → E a b → (0 < t.mark b ∧ (b ∈ n :: new2 ∨ b ∉ t.stack)) := by
    rintro a b ⟨h1, h2 | h2⟩ hab
    · exact hout a h2 b hab
    · have := hdone a b ⟨h1, h2⟩ hab
      exact ⟨this.1, .inr this.2⟩
  have hnot : ∀ v, v ∉ s.stack → v ∉ n :: new2 → v ∉ t.stack := fun v h1 h2 h3 => by
    rw [hst] at h3
    rcases List.mem_append.1 h3 with h3 | h3
    · exact h1 h3
    · exact h2 h3
  have hsorted : s.stack.Pairwise (fun a b => t.mark a < t.mark b) := by
    have h1 := h.inv.sorted
    rw [hst, List.pairwise_append] at h1
    exact h1.1
  refine ⟨⟨h.inv.lt, h.inv.le, h.inv.inj, h.inv.cnt, hsorted, fun v hv => h.inv.pos v (hS v hv), h.was.gray, fun v w hv hg hvw => ?_, fun v w hv hs hvw => ?_, fun v hv hs => ?_, fun x hx y hy => h.inv.reach x (List.mem_cons_of_mem _ hx) y (hS y hy), fun y hy => ?_⟩,
    ⟨h.ext.mark_old, h.ext.low_old, h.ext.fresh, h.ext.next⟩, by show 0 < t.mark n; rw [h.nmark]; omega, h.low_le, .inl hlow, ⟨[], by simp, by simp⟩⟩
  · by_cases e : v = n
    · subst e; exact (h.proc w (hall w hvw)).1
    · exact h.inv.black v w hv (by simp only [List.mem_cons, not_or]; exact ⟨e, hg⟩) hvw
  · by_cases hvC : v ∈ n :: new2
    · rcases (hout v hvC w hvw).2 with h1 | h1
      · exact hdis w h1
      · exact fun h2 => h1 (hS w h2)
    · have := h.inv.done v w hv (hnot v hs hvC) hvw
      exact fun h2 => this (hS w h2)
  · by_cases hvC : v ∈ n :: new2
    · show Least E v (ring' v)
      rw [hr1 v hvC]
      refine ⟨(hto v hvC).trans (hfrom r hmem), (hto r hmem).trans (hfrom v hvC), fun w hvw hwv => hmin w ?_⟩
      have h1 := Path.closed (S := fun a => 0 < t.mark a ∧ (a ∈ n :: new2 ∨ a ∉ t.stack)) hclosed hvw ⟨hv, .inl hvC⟩
      rcases h1.2 with h2 | h2
      · exact h2
      · have h3 := Path.closed (S := fun a => 0 < t.mark a ∧ a ∉ t.stack) hdone hwv ⟨h1.1, h2⟩
        exact absurd (hC v hvC) h3.2
    · show Least E v (ring' v)
      rw [hr2 v hvC]
      exact h.inv.ring v hv (hnot v hs hvC)
  · obtain ⟨x, hx, hxy, p⟩ := h.was.back y hy
    have h1 := h.old hy
    have h2 := h.old (h.was.gray x hx)
    exact ⟨x, hx, by show t.mark x ≤ t.mark y; omega, p⟩
end
theorem Inv.empty {s : Srch} (h1 : ∀ v, s.mark v = 0) (h2 : s.stack = []) (h3 : s.next = 0) : Inv E s [] := by
  refine ⟨fun v hv => ?_, fun v => ?_, fun u v _ hu => ?_, ?_, (by rw [h2]; exact .nil), fun v hv => ?_, fun g hg => (by cases hg), fun v w hv => ?_, fun v w hv => ?_, fun v hv => ?_, fun x hx => (by cases hx), fun y hy => ?_⟩
  · rw [h1] at hv; omega
  · rw [h1]; omega
  · rw [h1] at hu; omega
  · rw [h3]
    have : wh s.mark ≤ 32 := by
      have := List.countP_le_length (p := fun i => s.mark i == 0) (l := List.range 32)
      rw [List.length_range] at this
      exact this
    omega
  · rw [h2] at hv; cases hv
  · rw [h1] at hv; omega
  · rw [h1] at hv; omega
  · rw [h1] at hv; omega
  · rw [h2] at hy; cases hy
theorem Post.final {s s' : Srch} {n : Nat} (h : Post E s s' n []) (h1 : ∀ v, s.mark v = 0) : (∀ v, 0 < s'.mark v ↔ Path E n v) ∧ ∀ v, Path E n v → Least E v (s'.ring v) := by
  have hst : ∀ y, y ∉ s'.stack := fun y hy => by obtain ⟨x, hx, _⟩ := h.inv.back y hy; cases hx
  have hp : ∀ v, Path E n v → 0 < s'.mark v := fun v hv => Path.closed (S := fun a => 0 < s'.mark a) (fun a b ha hab => h.inv.black a b ha (by simp) hab) hv h.mine
  exact ⟨fun v => ⟨fun hv => (h.ext.fresh v (h1 v) hv).2, hp v⟩, fun v hv => h.inv.ring v (hp v hv) (hst v)⟩
end
end Go.Proofs.Ytopgdemmdcipcaa
namespace Go.Proofs.Ytopgdemmdcipcaa
set_option linter.unusedVariables false
theorem nodup_len : ∀ (n : Nat) (l : List Nat), l.Nodup → (∀ x ∈ l, x < n) → l.length ≤ n
  | 0, l, _, h => by
    cases l with
    | nil => simp
    | cons a t => exact absurd (h a List.mem_cons_self) (Nat.not_lt_zero _)
  | n + 1, l, hn, h => by
    have h1 := nodup_len n (l.filter (· != n)) (hn.filter _) (fun x hx => by
      rw [List.mem_filter] at hx
      have := h x hx.1
      have h2 : x ≠ n := by simpa using hx.2
      omega)
    have h2 : l.length ≤ (l.filter (· != n)).length + 1 := by
      clear h1 h
      induction l with
      | nil => simp
      | cons a t ih =>
        rw [List.nodup_cons] at hn
        have ih := ih hn.2
        by_cases e : a = n
        · subst e
          have : t.filter (· != a) = t := List.filter_eq_self.2 fun x hx => by simp; rintro rfl; exact hn.1 hx
          simp [this]
        · rw [List.filter_cons_of_pos (by simpa using e)]
          simp only [List.length_cons]
          omega
    omega
theorem countP_lt {p q : Nat → Bool} (h : ∀ k, q k = true → p k = true) {x : Nat} (hp : p x = true) (hq : q x = false) : ∀ (l : List Nat), x ∈ l → l.countP q < l.countP p := by
  intro l
  induction l with
  | nil => intro h; cases h
  | cons a t ih =>
    intro hm
    rw [List.countP_cons, List.countP_cons]
    have hle := countP_le h t
    rcases List.mem_cons.1 hm with rfl | hm
    · rw [hp, hq]; simp; omega
    · have := ih hm
      cases hqa : q a with
      | false => simp; omega
      | true => rw [h a hqa]; simp; omega
def candO (P : Nat → Nat → Bool) (n : Nat) (out : List Nat) (m : Nat) : Bool := P n m && (!out.contains m && (List.range 32).all fun d => !P m d || (P d m || out.contains d))
def nextO (P : Nat → Nat → Bool) (n : Nat) (out : List Nat) : Option Nat := (List.range 32).find? (candO P n out)
def ringO (P : Nat → Nat → Bool) (c : Nat) : List Nat := (List.range 32).filter fun m => P c m && P m c
def orderF (P : Nat → Nat → Bool) (n : Nat) : Nat → List Nat → List Nat
  | 0, out => out
  | k + 1, out => match nextO P n out with
    | none => out
    | some c => orderF P n k (out ++ ringO P c)
def orderS (P : Nat → Nat → Bool) (n : Nat) : List Nat := orderF P n 32 []
structure Pre (P : Nat → Nat → Bool) : Prop where
  refl : ∀ a, a < 32 → P a a = true
  trans : ∀ a b c, P a b = true → P b c = true → P a c = true
  lt : ∀ a b, a < 32 → P a b = true → b < 32
structure OKO (P : Nat → Nat → Bool) (n : Nat) (out : List Nat) : Prop where
  nodup : out.Nodup
  lt : ∀ m ∈ out, m < 32
  sub : ∀ m ∈ out, P n m = true
  dc : ∀ m ∈ out, ∀ d, P m d = true → d ∈ out
section
variable {P : Nat → Nat → Bool} {n : Nat} {out : List Nat}
theorem candO_iff {m : Nat} : candO P n out m = true ↔ P n m = true ∧ m ∉ out ∧ ∀ d, d < 32 → P m d = true → P d m = true ∨ d ∈ out := by
  simp only [candO, Bool.and_eq_true, Bool.not_eq_true', List.all_eq_true, List.mem_range, Bool.or_eq_true, List.contains_eq_mem, decide_eq_true_eq, decide_eq_false_iff_not]
  constructor
  · rintro ⟨h1, h2, h3⟩
    refine ⟨h1, h2, fun d hd hm => ?_⟩
    rcases h3 d hd with h | h
    · rw [hm] at h; cases h
    · exact h
  · rintro ⟨h1, h2, h3⟩
    refine ⟨h1, h2, fun d hd => ?_⟩
    cases hm : P m d with
    | false => exact .inl rfl
    | true => exact .inr (h3 d hd hm)
theorem nextO_some {c : Nat} (h : nextO P n out = some c) : c < 32 ∧ candO P n out c = true ∧ ∀ m, m < c → candO P n out m = false := by
  unfold nextO at h
  have h1 := List.find?_some h
  have h2 := List.mem_of_find?_eq_some h
  refine ⟨List.mem_range.1 h2, h1, fun m hm => ?_⟩
  rw [List.find?_range_eq_some] at h
  have := h.2.2 m hm
  simpa using this
theorem nextO_none : nextO P n out = none ↔ ∀ m, m < 32 → candO P n out m = false := by
  unfold nextO
  rw [List.find?_eq_none]
  simp
theorem mem_ringO {c m : Nat} : m ∈ ringO P c ↔ m < 32 ∧ P c m = true ∧ P m c = true := by
  simp [ringO, List.mem_filter, List.mem_range]
theorem OKO.nil : OKO P n [] := ⟨List.nodup_nil, by simp, by simp, by simp⟩
theorem OKO.step (hP : Pre P) (hn : n < 32) (h : OKO P n out) {c : Nat} (hc : nextO P n out = some c) : OKO P n (out ++ ringO P c) := by
  obtain ⟨hc32, hcand, _⟩ := nextO_some hc
  rw [candO_iff] at hcand
  obtain ⟨h1, h2, h3⟩ := hcand
  refine ⟨?_, fun m hm => ?_, fun m hm => ?_, fun m hm d hd => ?_⟩
  · rw [List.nodup_append]
    refine ⟨h.nodup, List.nodup_range.filter _, fun a ha b hb => ?_⟩
    rintro rfl
    exact h2 (h.dc a ha c (mem_ringO.1 hb).2.2)
  · rcases List.mem_append.1 hm with hm | hm
    · exact h.lt m hm
    · exact (mem_ringO.1 hm).1
  · rcases List.mem_append.1 hm with hm | hm
    · exact h.sub m hm
    · exact hP.trans _ _ _ h1 (mem_ringO.1 hm).2.1
  · rcases List.mem_append.1 hm with hm | hm
    · exact List.mem_append_left _ (h.dc m hm d hd)
    · obtain ⟨hm32, hcm, hmc⟩ := mem_ringO.1 hm
      have hcd := hP.trans _ _ _ hcm hd
      have hd32 := hP.lt m d hm32 hd
      rcases h3 d hd32 hcd with h4 | h4
      · exact List.mem_append_right _ (mem_ringO.2 ⟨hd32, hcd, h4⟩)
      · exact List.mem_append_left _ h4
theorem ringO_self (hP : Pre P) {c : Nat} (hc : c < 32) : c ∈ ringO P c := mem_ringO.2 ⟨hc, hP.refl c hc, hP.refl c hc⟩
theorem OKO.len (h : OKO P n out) : out.length ≤ 32 := nodup_len 32 out h.nodup h.lt
theorem OKO.full (h : OKO P n out) (hl : 32 ≤ out.length) : nextO P n out = none := by
  rw [nextO_none]
  intro m hm
  cases hc : candO P n out m with
  | false => rfl
  | true =>
    rw [candO_iff] at hc
    have := nodup_len 32 (m :: out) (List.nodup_cons.2 ⟨hc.2.1, h.nodup⟩) (fun x hx => by
      rcases List.mem_cons.1 hx with rfl | hx
      · exact hm
      · exact h.lt x hx)
    simp only [List.length_cons] at this
    omega
theorem OKO.more (hP : Pre P) (hn : n < 32) (h : OKO P n out) : ∀ (k m : Nat), (List.range 32).countP (P m) ≤ k → P n m = true → m ∉ out → nextO P n out ≠ none
  | k, m, hk, hm, hmo => by
    intro h0
    have hm32 := hP.lt n m hn hm
    have hno := nextO_none.1 h0 m hm32
    by_cases hall : ∀ d, d < 32 → P m d = true → P d m = true ∨ d ∈ out
    · rw [candO_iff.2 ⟨hm, hmo, hall⟩] at hno
      cases hno
    · have hex : ∃ d, d < 32 ∧ P m d = true ∧ P d m = false ∧ d ∉ out := by
        refine Classical.byContradiction fun hne => hall fun d hd hmd => ?_
        by_cases h1 : d ∈ out
        · exact .inr h1
        · cases h2 : P d m with
          | true => exact .inl rfl
          | false => exact absurd ⟨d, hd, hmd, h2, h1⟩ hne
      obtain ⟨d, hd, hmd, hdm, hdo⟩ := hex
      have hlt : (List.range 32).countP (P d) < (List.range 32).countP (P m) :=
        countP_lt (p := P m) (q := P d) (fun x hx => hP.trans _ _ x hmd hx) (hP.refl m hm32) hdm _ (List.mem_range.2 hm32)
      cases k with
      | zero => omega
      | succ k => exact OKO.more hP hn h k d (by omega) (hP.trans _ _ _ hm hmd) hdo h0
theorem orderF_end (hP : Pre P) (hn : n < 32) : ∀ (k : Nat) (out : List Nat), OKO P n out → 32 ≤ k + out.length → OKO P n (orderF P n k out) ∧ nextO P n (orderF P n k out) = none
  | 0, out, h, hk => ⟨h, h.full (by omega)⟩
  | k + 1, out, h, hk => by
    unfold orderF
    cases hc : nextO P n out with
    | none => exact ⟨h, hc⟩
    | some c =>
      refine orderF_end hP hn k _ (h.step hP hn hc) ?_
      have := List.length_pos_of_mem (ringO_self hP (nextO_some hc).1)
      rw [List.length_append]
      omega
theorem orderS_mem (hP : Pre P) (hn : n < 32) (m : Nat) : m ∈ orderS P n ↔ P n m = true := by
  obtain ⟨h1, h2⟩ := orderF_end hP hn 32 [] OKO.nil (by simp)
  refine ⟨h1.sub m, fun hm => ?_⟩
  refine Classical.byContradiction fun hno => ?_
  exact h1.more hP hn _ m (Nat.le_refl _) hm hno h2
theorem orderS_ok (hP : Pre P) (hn : n < 32) : OKO P n (orderS P n) := (orderF_end hP hn 32 [] OKO.nil (by simp)).1
end
end Go.Proofs.Ytopgdemmdcipcaa
namespace Go.Proofs.Ytopgdemmdcipcaa
open Go.RowKit
open Rep (rep)
section
variable {α : Type} {n : Nat} {v : Vector α n} {k : Nat}
theorem idxV_ok (hk : k < n) : idxV v (k : Int) = some v[k] := by
  unfold idxV
  rw [if_pos (Int.natCast_nonneg k)]
  simp [hk]
theorem setV_ok {x : α} (hk : k < n) : setV v (k : Int) x = some (v.set k x) := by
  unfold setV
  rw [if_pos ⟨Int.natCast_nonneg k, by omega⟩]
  congr 1
  refine Vector.ext fun j hj => ?_
  simp [Vector.getElem_setIfInBounds, Vector.getElem_set]
end
def bat (v : Vector Bool 32) (k : Nat) : Bool := v[k]?.getD false
theorem bat_lt {v : Vector Bool 32} {k : Nat} (hk : k < 32) : v[k] = bat v k := by simp [bat, hk]
theorem idxB {v : Vector Bool 32} {k : Nat} (hk : k < 32) : idxV v (k : Int) = some (bat v k) := by rw [idxV_ok hk, bat_lt hk]
theorem bat_set {v : Vector Bool 32} {k j : Nat} {x : Bool} (hk : k < 32) : bat (v.set k x) j = if k = j then x else bat v j := by
  unfold bat
  by_cases hj : j < 32
  · simp only [Vector.getElem?_set]
    by_cases e : k = j
    · subst e; simp
    · simp [e]
  · have hkj : k ≠ j := by omega
    simp [hj, hkj]
theorem bat_ext {v u : Vector Bool 32} (h : ∀ k, k < 32 → bat v k = bat u k) : v = u := by
  refine Vector.ext fun k hk => ?_
  rw [bat_lt hk, bat_lt hk]
  exact h k hk
theorem bat_zero (k : Nat) : bat (Zr.zd : Vector Bool 32) k = false := by
  show bat (Vector.replicate 32 false) k = false
  unfold bat
  by_cases hk : k < 32 <;> simp [hk]
def cz (v : Vector Bool 32) : Nat := (List.range 32).countP fun k => !bat v k
theorem cz_set {v : Vector Bool 32} {k : Nat} (hk : k < 32) (h : bat v k = false) : cz v = cz (v.set k true) + 1 := by
  unfold cz
  refine countP_turn (n := k) (by simp [h]) (by rw [bat_set hk, if_pos rfl]; rfl) (fun j hj => ?_) _ List.nodup_range (List.mem_range.2 hk)
  rw [bat_set hk, if_neg (fun e => hj e.symm)]
theorem cz_le (v : Vector Bool 32) : cz v ≤ 32 := by
  unfold cz
  have := List.countP_le_length (p := fun k => !bat v k) (l := List.range 32)
  rw [List.length_range] at this
  exact this
theorem cz_mono {v u : Vector Bool 32} (h : ∀ k, bat v k = true → bat u k = true) : cz u ≤ cz v := by
  unfold cz
  refine countP_le (fun k hk => ?_) _
  cases hv : bat v k with
  | false => rfl
  | true => rw [h k hv] at hk; cases hk
def depsAt (g : GGraph) (a : Nat) : List Int := if h : a < 32 then g.deps[a] else []
theorem idxD {g : GGraph} {a : Nat} (h : a < 32) : idxV g.deps (a : Int) = some (depsAt g a) := by rw [idxV_ok h]; simp [depsAt, h]
def Edge (g : GGraph) (a b : Nat) : Prop := a < 32 ∧ bat g.known a = true ∧ (b : Int) ∈ depsAt g a ∧ b < 32
def Small (g : GGraph) (N : Nat) : Prop := ∀ a, (depsAt g a).length < N ∧ (depsAt g a).length ≤ 17592186043904
theorem path_lt {g : GGraph} {a b : Nat} (h : Path (Edge g) a b) (ha : a < 32) : b < 32 := by
  cases h with
  | refl => exact ha
  | tail _ e => exact e.2.2.2
theorem len_bytes {l : List Int} (h : l.length ≤ 100) : (l.length + 1) * Rep.bytes Int ≤ 140737488351232 := by
  have : Rep.bytes Int = 8 := rfl
  rw [this]; omega
theorem wrs (k : Nat) (h : k ≤ 17592186043904) : IntKind.wrap .i64 ((k : Int) + 1) = ((k + 1 : Nat) : Int) := by rw [wr64 (by omega) (by omega)]; omega
theorem int_cases (x : Int) : (∃ b : Nat, b < 32 ∧ x = b) ∨ ¬ (0 ≤ x ∧ x < 32) := by
  by_cases h : 0 ≤ x ∧ x < 32
  · exact .inl ⟨x.toNat, by omega, by omega⟩
  · exact .inr h
theorem drop_mem {α : Type} {l : List α} {k : Nat} (hk : k < l.length) : l.drop k = l[k] :: l.drop (k + 1) := List.drop_eq_getElem_cons hk
structure Fed (ds : List Int) (d : Vector Bool 32) (l : List Int) (d' : Vector Bool 32) (l' : List Int) : Prop where
  keep : ∀ k, bat d k = true → bat d' k = true
  all : ∀ b : Nat, b < 32 → (b : Int) ∈ ds → bat d' b = true
  only : ∀ k, bat d' k = true → bat d k = true ∨ ((k : Int) ∈ ds ∧ (k : Int) ∈ l')
  old : ∀ x, x ∈ l → x ∈ l'
  new : ∀ x, x ∈ l' → x ∈ l ∨ ∃ b : Nat, b < 32 ∧ x = b ∧ (b : Int) ∈ ds ∧ bat d' b = true
  cnt : l'.length + cz d' = l.length + cz d
theorem Fed.refl {d : Vector Bool 32} {l : List Int} : Fed [] d l d l := ⟨fun _ h => h, fun _ _ h => by simp at h, fun _ h => .inl h, fun _ h => h, fun _ h => .inl h, rfl⟩
theorem Fed.skip {x : Int} {ds : List Int} {d d' : Vector Bool 32} {l l' : List Int} (hx : ∀ b : Nat, b < 32 → x = b → bat d b = true) (h : Fed ds d l d' l') : Fed (x :: ds) d l d' l' := by
  refine ⟨h.keep, fun b hb hm => ?_, fun k hk => ?_, h.old, fun y hy => ?_, h.cnt⟩
  · rcases List.mem_cons.1 hm with e | hm
    · exact h.keep b (hx b hb e.symm)
    · exact h.all b hb hm
  · rcases h.only k hk with h1 | h1
    · exact .inl h1
    · exact .inr ⟨List.mem_cons_of_mem _ h1.1, h1.2⟩
  · rcases h.new y hy with h1 | ⟨b, h1, h2, h3, h4⟩
    · exact .inl h1
    · exact .inr ⟨b, h1, h2, List.mem_cons_of_mem _ h3, h4⟩
theorem Fed.push {a : Nat} {ds : List Int} {d d' : Vector Bool 32} {l l' : List Int} (ha : a < 32) (hd : bat d a = false) (h : Fed ds (d.set a true) (l ++ [(a : Int)]) d' l') : Fed ((a : Int) :: ds) d l d' l' := by
  have hset : bat (d.set a true) a = true := by rw [bat_set ha, if_pos rfl]
  refine ⟨fun k hk => h.keep k (by rw [bat_set ha]; split <;> simp [hk]), fun b hb hm => ?_, fun k hk => ?_, fun y hy => h.old y (List.mem_append_left _ hy), fun y hy => ?_, ?_⟩
  · rcases List.mem_cons.1 hm with e | hm
    · have : b = a := by omega
      subst this
      exact h.keep b hset
    · exact h.all b hb hm
  · rcases h.only k hk with h1 | h1
    · rw [bat_set ha] at h1
      by_cases e : a = k
      · subst e
        exact .inr ⟨List.mem_cons_self, h.old _ (by simp)⟩
      · rw [if_neg e] at h1
        exact .inl h1
    · exact .inr ⟨List.mem_cons_of_mem _ h1.1, h1.2⟩
  · rcases h.new y hy with h1 | ⟨b, h1, h2, h3, h4⟩
    · rcases List.mem_append.1 h1 with h1 | h1
      · exact .inl h1
      · rw [List.mem_singleton] at h1
        exact .inr ⟨a, ha, h1, List.mem_cons_self, h.keep a hset⟩
    · exact .inr ⟨b, h1, h2, List.mem_cons_of_mem _ h3, h4⟩
  · have h1 := h.cnt
    have h2 := cz_set ha hd
    rw [List.length_append] at h1
    simp only [List.length_cons, List.length_nil] at h1
    omega
theorem reach_l2_eq {rec : Vector Bool 32 → List Int → Option (Vector Bool 32)} {ds : List Int} (hds : ds.length ≤ 17592186043904) : ∀ (n m k : Nat) (d : Vector Bool 32) (l : List Int), ds.length = k + m → m < n → l.length + cz d ≤ 100 →
    ∃ d' l', reach_l2 rec ds n d l k = rec d' l' ∧ Fed (ds.drop k) d l d' l'
  | 0, m, k, d, l, _, h, _ => absurd h (by omega)
  | n + 1, 0, k, d, l, hk, _, _ => ⟨d, l, by rw [reach_l2, bif_f (dec_f (by omega))], by rw [List.drop_of_length_le (by omega)]; exact Fed.refl⟩
  | n + 1, m + 1, k, d, l, hk, hn, hl => by
    have hlt : k < ds.length := by omega
    have ih := fun d l h => reach_l2_eq (rec := rec) hds n m (k + 1) d l (by omega) (by omega) h
    rw [reach_l2, bif_t (dec_t (by omega)), idx_nat, List.getElem?_eq_getElem hlt, some_bind, drop_mem hlt]
    simp only [reach_j3, reach_j2, wrs k (by omega)]
    generalize ds[k] = x
    rcases int_cases x with ⟨b, hb, rfl⟩ | hx
    · rw [bif_t (dec_t (by omega)), bif_t (dec_t (by omega)), inR_ok (by omega) (by omega), some_bind, idxB hb, some_bind]
      cases hd : bat d b with
      | true =>
        obtain ⟨d', l', h1, h2⟩ := ih d l hl
        exact ⟨d', l', by rw [← h1]; rfl, h2.skip fun c _ e => (show c = b by omega) ▸ hd⟩
      | false =>
        have hc := cz_set hb hd
        obtain ⟨d', l', h1, h2⟩ := ih (d.set b true) (l ++ [(b : Int)]) (by simp; omega)
        refine ⟨d', l', ?_, h2.push hb hd⟩
        simp only [Bool.not_false, cond_true, some_bind, setV_ok hb, app_ok (a := l) (b := [(b : Int)]) (len_bytes (show l.length ≤ 100 by omega))]
        exact h1
    · obtain ⟨d', l', h1, h2⟩ := ih d l hl
      refine ⟨d', l', ?_, h2.skip fun c hc e => absurd (show 0 ≤ x ∧ x < 32 by omega) hx⟩
      by_cases h0 : x ≥ 0
      · rw [bif_t (dec_t h0), bif_f (dec_f (by omega))]; exact h1
      · rw [bif_f (dec_f h0)]; exact h1
structure Going (g : GGraph) (s : Nat) (d : Vector Bool 32) (l : List Int) : Prop where
  first : bat d s = true
  path : ∀ k, bat d k = true → Path (Edge g) s k
  work : ∀ x ∈ l, ∃ b : Nat, b < 32 ∧ x = b ∧ bat d b = true
  closed : ∀ a b, bat d a = true → (a : Int) ∉ l → Edge g a b → bat d b = true
theorem Going.fin {g : GGraph} {s : Nat} {d : Vector Bool 32} (h : Going g s d []) (k : Nat) : bat d k = true ↔ Path (Edge g) s k :=
  ⟨h.path k, fun hp => Path.closed (S := fun a => bat d a = true) (fun a b ha he => h.closed a b ha (by simp) he) hp h.first⟩
open Classical in
noncomputable def reachV (g : GGraph) (s : Nat) : Vector Bool 32 := Vector.ofFn fun k => decide (Path (Edge g) s k.val)
theorem bat_reachV {g : GGraph} {s k : Nat} (hk : k < 32) : bat (reachV g s) k = true ↔ Path (Edge g) s k := by
  unfold bat reachV
  simp [hk]
theorem reachV_of {g : GGraph} {s : Nat} {d : Vector Bool 32} (h : ∀ k, bat d k = true ↔ Path (Edge g) s k) : d = reachV g s := by
  refine bat_ext fun k hk => ?_
  rw [Bool.eq_iff_iff, h, bat_reachV hk]
theorem cutL_pop {l : List Int} (h : 0 < l.length) : cutL l none (some ((l.length : Int) - 1)) = some l.dropLast := by
  unfold cutL cutOk
  simp only [Option.getD_none, Option.getD_some]
  rw [if_pos (by omega)]
  simp only [Option.map_some, Option.some.injEq]
  rw [List.dropLast_eq_take, show ((0 : Int)).toNat = 0 from rfl, List.drop_zero]
  congr 1
  omega
theorem reach_l1_eq {fu N : Nat} {g : GGraph} (hg : Small g N) (hf : N ≤ fu) {s : Nat} : ∀ (n : Nat) (d : Vector Bool 32) (l : List Int), Going g s d l → l.length + cz d < n → l.length + cz d ≤ 100 → reach_l1 fu g n d l = some (reachV g s)
  | 0, d, l, _, h, _ => absurd h (by omega)
  | n + 1, d, l, hG, hn, hl => by
    rw [reach_l1]
    by_cases h0 : l.length = 0
    · have : l = [] := List.length_eq_zero_iff.1 h0
      subst this
      rw [bif_f (dec_f (by simp)), some_bind, reachV_of hG.fin]
    · rw [bif_t (dec_t (by omega)), wr64 (by omega) (by omega), show ((l.length : Int) - 1) = ((l.length - 1 : Nat) : Int) from by omega, idx_nat, List.getElem?_eq_getElem (by omega), some_bind,
        show (((l.length - 1 : Nat) : Int)) = (l.length : Int) - 1 from by omega, cutL_pop (by omega), some_bind]
      have hlast : l = l.dropLast ++ [l[l.length - 1]] := by
        have h1 := List.dropLast_concat_getLast (l := l) (by rintro rfl; simp at h0)
        rw [List.getLast_eq_getElem] at h1
        exact h1.symm
      obtain ⟨m, hm, hx, hdm⟩ := hG.work l[l.length - 1] (List.getElem_mem _)
      rw [hx] at hlast ⊢
      generalize hl2 : l.dropLast = l2 at hlast ⊢
      have hlen : l.length = l2.length + 1 := by rw [hlast]; simp
      have hmem : ∀ x, x ∈ l → x ∈ l2 ∨ x = m := fun x hx => by
        rw [hlast] at hx
        rcases List.mem_append.1 hx with h | h
        · exact .inl h
        · exact .inr (by simpa using h)
      have hsub : ∀ x, x ∈ l2 → x ∈ l := fun x hx => by rw [hlast]; exact List.mem_append_left _ hx
      rw [inR_ok (by omega) (by omega), some_bind, idxB hm, some_bind]
      cases hk : bat g.known m with
      | false =>
        rw [bif_t (by rfl)]
        refine reach_l1_eq hg hf n d l2 ⟨hG.first, hG.path, fun x hx => hG.work x (hsub x hx), fun a b ha hno he => ?_⟩ (by omega) (by omega)
        by_cases e : a = m
        · subst e; rw [he.2.1] at hk; cases hk
        · refine hG.closed a b ha (fun hal => ?_) he
          rcases hmem _ hal with h1 | h1
          · exact hno h1
          · omega
      | true =>
        rw [bif_f (by rfl), some_bind, idxD hm, some_bind]
        obtain ⟨d', l', h1, h2⟩ := reach_l2_eq (rec := reach_l1 fu g n) (hg m).2 fu (depsAt g m).length 0 d l2 (by omega) (by have := (hg m).1; omega) (by omega)
        have h1 : reach_l2 (reach_l1 fu g n) (depsAt g m) fu d l2 0 = reach_l1 fu g n d' l' := h1
        rw [h1]
        rw [List.drop_zero] at h2
        have hc := h2.cnt
        refine reach_l1_eq hg hf n d' l' ⟨h2.keep _ hG.first, fun k hk' => ?_, fun x hx => ?_, fun a b ha hno he => ?_⟩ (by omega) (by omega)
        · rcases h2.only k hk' with h3 | ⟨h3, h4⟩
          · exact hG.path k h3
          · rcases h2.new k h4 with h5 | ⟨b, hb, e, _, _⟩
            · obtain ⟨b, hb, e, hd⟩ := hG.work _ (hsub _ h5)
              have : k = b := by omega
              subst this
              exact hG.path k hd
            · have : k = b := by omega
              subst this
              exact .tail (hG.path m hdm) ⟨hm, hk, h3, hb⟩
        · rcases h2.new x hx with h3 | ⟨b, hb, e, _, hd⟩
          · obtain ⟨b, hb, e, hd⟩ := hG.work x (hsub x h3)
            exact ⟨b, hb, e, h2.keep b hd⟩
          · exact ⟨b, hb, e, hd⟩
        · by_cases e : a = m
          · subst e; exact h2.all b he.2.2.2 he.2.2.1
          · rcases h2.only a ha with h3 | ⟨_, h3⟩
            · refine h2.keep b (hG.closed a b h3 (fun hal => ?_) he)
              rcases hmem _ hal with h4 | h4
              · exact hno (h2.old _ h4)
              · omega
            · exact absurd h3 hno
noncomputable def reachZ (g : GGraph) (x : Int) : Vector Bool 32 := if 0 ≤ x ∧ x < 32 then reachV g x.toNat else Zr.zd
theorem start_going (g : GGraph) {s : Nat} (hs : s < 32) : Going g s ((Zr.zd : Vector Bool 32).set s true) [(s : Int)] := by
  have h1 : ∀ k, bat ((Zr.zd : Vector Bool 32).set s true) k = true ↔ s = k := fun k => by
    rw [bat_set hs, bat_zero]
    by_cases e : s = k <;> simp [e]
  refine ⟨(h1 s).2 rfl, fun k hk => ?_, fun x hx => ?_, fun a b ha hno he => ?_⟩
  · rw [(h1 k).1 hk]; exact .refl _
  · exact ⟨s, hs, by simpa using hx, (h1 s).2 rfl⟩
  · have := (h1 a).1 ha
    subst this
    exact absurd (by simp) hno
theorem reachD_eq {fu N : Nat} {g : GGraph} (hg : Small g N) (hf : N + 40 ≤ fu) (x : Int) : reachD fu g x = some (reachZ g x) := by
  unfold reachD reachZ
  rcases int_cases x with ⟨s, hs, rfl⟩ | hx
  · rw [bif_f (dec_f (by omega)), reach_j4, bif_f (dec_f (by omega)), if_pos (by omega), reach_j1, inR_ok (by omega) (by omega), some_bind, idxB hs, some_bind, setV_ok hs, some_bind, some_bind]
    have hc := cz_le ((Zr.zd : Vector Bool 32).set s true)
    exact reach_l1_eq hg (by omega) fu _ _ (start_going g hs) (by simp; omega) (by simp; omega)
  · rw [if_neg hx]
    by_cases h0 : x < 0
    · rw [bif_t (dec_t h0)]; rfl
    · rw [bif_f (dec_f h0), reach_j4, bif_t (dec_t (by omega))]; rfl
structure Grown (ds : List Int) (d : Vector Bool 32) (c : Bool) (d' : Vector Bool 32) (c' : Bool) : Prop where
  keep : ∀ k, bat d k = true → bat d' k = true
  all : ∀ b : Nat, b < 32 → (b : Int) ∈ ds → bat d' b = true
  only : ∀ k, bat d' k = true → bat d k = true ∨ ((k : Int) ∈ ds ∧ k < 32)
  same : c' = false → c = false ∧ d' = d
  less : c' = true → c = true ∨ cz d' < cz d
theorem Grown.cz {ds : List Int} {d d' : Vector Bool 32} {c c' : Bool} (h : Grown ds d c d' c') : cz d' ≤ cz d := cz_mono h.keep
def allKnown (g : GGraph) (d : Vector Bool 32) (k : Nat) : Prop := ∀ j, k ≤ j → j < 32 → bat d j = true → bat g.known j = true
open Classical in
noncomputable def readyZ (g : GGraph) (x : Int) : Bool := decide ((0 ≤ x ∧ x < 32) ∧ ∀ j, j < 32 → bat (reachZ g x) j = true → bat g.known j = true)
theorem ready_l1_eq {g : GGraph} {d : Vector Bool 32} : ∀ (n m k : Nat), k + m = 32 → m < n → ∃ b, ready_l1 g d n k = some b ∧ (b = true ↔ allKnown g d k)
  | 0, m, k, _, h => absurd h (by omega)
  | n + 1, 0, k, hk, _ => ⟨true, by rw [ready_l1, bif_f (dec_f (by omega))], by simp only [true_iff]; intro j h1 h2; omega⟩
  | n + 1, m + 1, k, hk, hn => by
    have hk32 : k < 32 := by omega
    obtain ⟨b, h1, h2⟩ := ready_l1_eq (g := g) (d := d) n m (k + 1) (by omega) (by omega)
    rw [ready_l1, bif_t (dec_t (by omega)), idxB hk32, some_bind]
    simp only [ready_j3, ready_j2, wrs k (by omega)]
    have step : (bat d k = true → bat g.known k = true) → (b = true ↔ allKnown g d k) := fun hs => by
      rw [h2]
      constructor
      · intro h j hj
        by_cases e : j = k
        · subst e; intro _; exact hs
        · exact h j (by omega)
      · intro h j hj
        exact h j (by omega)
    cases hd : bat d k with
    | false => exact ⟨b, h1, step fun h => by rw [hd] at h; cases h⟩
    | true =>
      rw [bif_t rfl, inR_ok (by omega) (by omega), some_bind, idxB hk32, some_bind]
      cases hkn : bat g.known k with
      | true => exact ⟨b, h1, step fun _ => hkn⟩
      | false =>
        refine ⟨false, rfl, ?_⟩
        simp only [Bool.false_eq_true, false_iff]
        intro h
        have := h k (Nat.le_refl _) hk32 hd
        rw [hkn] at this; cases this
theorem readyZ_iff {g : GGraph} {x : Int} : readyZ g x = true ↔ (0 ≤ x ∧ x < 32) ∧ allKnown g (reachZ g x) 0 := by
  unfold readyZ allKnown
  simp
theorem readyD_eq {fu N : Nat} {g : GGraph} (hg : Small g N) (hf : N + 40 ≤ fu) (x : Int) : readyD fu g x = some (readyZ g x) := by
  unfold readyD
  rcases int_cases x with ⟨s, hs, rfl⟩ | hx
  · rw [bif_f (dec_f (by omega)), ready_j4, bif_f (dec_f (by omega)), ready_j1, reachD_eq hg hf, some_bind]
    obtain ⟨b, h1, h2⟩ := ready_l1_eq (g := g) (d := reachZ g s) fu 32 0 (by omega) (by omega)
    have h1 : ready_l1 g (reachZ g s) fu 0 = some b := h1
    rw [h1]
    congr 1
    rw [Bool.eq_iff_iff, h2, readyZ_iff]
    simp; omega
  · have : readyZ g x = false := by
      cases h : readyZ g x with
      | false => rfl
      | true => exact absurd (readyZ_iff.1 h).1 hx
    rw [this]
    by_cases h0 : x < 0
    · rw [bif_t (dec_t h0)]; rfl
    · rw [bif_f (dec_f h0), ready_j4, bif_t (dec_t (by omega))]
end Go.Proofs.Ytopgdemmdcipcaa
