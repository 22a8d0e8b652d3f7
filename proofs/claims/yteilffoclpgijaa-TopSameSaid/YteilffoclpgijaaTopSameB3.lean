/- What the proof of TopSame rests on, part 3: rules of walks, what functions compute, and plain laws of it. -/
import Derived.Test.YteilffoclpgijaaTopSameB2
namespace Go.Proofs.Yteilffoclpgijaa
open Go.RowKit
open Rep (rep)
set_option linter.unusedVariables false
abbrev Zj := @Gives.mk
abbrev Z3 := @repL_nil
abbrev Jh := @tp28
abbrev Jk := @ts4
abbrev Jl := @fa49_1
abbrev Kg := @GCase.p1
abbrev Vy := @fa49_2
abbrev Yw := @GCase.p2
abbrev K6 := @fa49_5
abbrev V7 := @GCase.p5
abbrev K7 := @GCase.p3
abbrev Jq := @ia45
abbrev Qt := @inR_some
abbrev Za := @Y_ixA
abbrev Zp := @Y_pick_t
abbrev Yk := @St.dropB
abbrev Vb := @ta49
abbrev Jb := @c_touches
abbrev Kv := @GFrame.w0
abbrev Kw := @GFrame.w1
abbrev Kx := @GFrame.w2
abbrev Q1 := @repL_rep
abbrev Zb := @fz_cons
abbrev Q9 := @repL_cells
abbrev Z8 := @fz_nil
abbrev Z9 := @rep_eq
abbrev Zx := @Y_build
abbrev Vq := @wgy
abbrev Kh := @wgld
abbrev Yg := @wsk
abbrev V9 := @R_ctt
abbrev Y1 := @O_mem
def cloneOpsD (fu:Nat) (x1:List GOp):Option (List GOp) :=
 (app ([]:List GOp) x1).bind fun l8 =>
 some l8
set_option maxRecDepth 100000 in
set_option maxHeartbeats 4000000 in
theorem cloneOps_ok {M:Mm} {w:World} {vx1:Value} {x1:List GOp} {fu:Nat} {r:(List GOp)} (hA:Agree M w) (hvx1:repL M vx1 x1) (hz:cloneOpsD fu x1=some r) :
    Calls Try.prog 53 #[vx1] w (Gives M w (fun M' u=>repL M' u r)):=by
 refine Zh Try.func53 rfl 8 rfl rfl (by kernel_rfl) fun T hT => ?_
 have hT_0:T 0=vx1:=hT 0
 clear hT
 have hE:=Qg w.heap.size noX M
 have hS:St w noX M [] w:=Zv hA
 rw [cloneOpsD] at hz
 refine Qh <|Qi <|Qd (Qj ((.slice none 0 0)) rfl) ?_
 refine Qf (Qa ?_)
 refine Qh <|Qh <|Qi <|Qd (Qe (vx1) hT_0) <|Qd (Y_eqNilL rfl rfl Z7 hvx1) ?_
 refine Qf (Qa ?_)
 refine Qr rfl (fun hc2 => ?_) (fun hc2 => ?_)
 replace hz:(some [])=some r:=by rw [repL_isNil hvx1 hc2] at hz;simpa [app] using hz
 refine Qh <|Qi <|Qd (Qj ((.slice none 0 0)) rfl) ?_
 refine Qf (Qa ?_)
 cases hz
 exact Q4 (Qs (Yj rfl rfl (Zj hS hE (Z3 _))))
 refine Qv (Qa ?_)
 refine Qh <|Qi ?_
 refine Qu (O_bslice0R tp27 hS ?_)
 intro v4 M4 w3 hx4 hv4 hS
 replace hv4:repL M4 v4 ([]:List GOp):=hv4 _
 replace hvx1:=Qw hx4.1 hvx1
 refine Qd (Qe (vx1) hT_0) ?_
 obtain ⟨l8,hr7,hz⟩:=Qb hz
 obtain ⟨hy7,hs7⟩:=Z1 hr7
 refine Qu (Y3 (α := GOp) (j:=0) tp27 hS rfl rfl rfl hv4 hvx1 hy7 ?_)
 intro v7 M7 w6 hx7 hv7 hS
 rw [← hs7] at hv7
 clear hr7 hs7
 replace hE:=Qc hE (hx4.trans hx7)
 refine Qd (Qj (v7) rfl) ?_
 refine Qf (Qa ?_)
 cases hz
 exact Q4 (Yj rfl rfl (Zj (Qm hS) hE hv7))
def cloneIntsD (fu:Nat) (x1:List Int):Option (List Int) :=
 (app ([]:List Int) x1).bind fun l8 =>
 some l8
set_option maxRecDepth 100000 in
set_option maxHeartbeats 4000000 in
theorem cloneInts_ok {M:Mm} {w:World} {vx1:Value} {x1:List Int} {fu:Nat} {r:(List Int)} (hA:Agree M w) (hvx1:repL M vx1 x1) (hz:cloneIntsD fu x1=some r) :
    Calls Try.prog 44 #[vx1] w (GivesL M w [] (fun M' u L' => ∃ v0,u=v0∧L'=[.row v0 3 1]∧repL M' v0 r)):=by
 refine Zh Try.func44 rfl 8 rfl rfl (by kernel_rfl) fun T hT => ?_
 have hT_0:T 0=vx1:=hT 0
 clear hT
 have hE:=Qg w.heap.size (lentX []) M
 have hS:St w (lentX []) M [] w:=Zv hA
 rw [cloneIntsD] at hz
 refine Qh <|Qi <|Qd (Qj ((.slice none 0 0)) rfl) ?_
 refine Qf (Qa ?_)
 refine Qh <|Qh <|Qi <|Qd (Qe (vx1) hT_0) <|Qd (Y_eqNilL rfl rfl Qq hvx1) ?_
 refine Qf (Qa ?_)
 refine Qr rfl (fun hc2 => ?_) (fun hc2 => ?_)
 replace hz:(some [])=some r:=by rw [repL_isNil hvx1 hc2] at hz;simpa [app] using hz
 refine Qh <|Qi <|Qd (Qj ((.slice none 0 0)) rfl) ?_
 refine Qf (Qa ?_)
 replace hS:=hS.nilRow 3 1
 cases hz
 exact Q4 (Qs (Yj rfl rfl ⟨_,M,_,rfl,hE,(hS.sel (H':=[.row (.slice none 0 0) 3 1]) [0] (by decide) rfl),(.slice none 0 0),rfl,rfl,(Z3 _)⟩))
 refine Qv (Qa ?_)
 refine Qh <|Qi ?_
 refine Qu (O_bslice0R Jh hS ?_)
 intro v4 M4 w3 hx4 hv4 hS
 replace hv4:repL M4 v4 ([]:List Int):=hv4 _
 replace hvx1:=Qw hx4.1 hvx1
 refine Qd (Qe (vx1) hT_0) ?_
 obtain ⟨l8,hr7,hz⟩:=Qb hz
 obtain ⟨hy7,hs7⟩:=Z1 hr7
 refine Qu (Y3 (α := Int) (j:=0) Jh hS rfl rfl rfl hv4 hvx1 hy7 ?_)
 intro v7 M7 w6 hx7 hv7 hS
 rw [← hs7] at hv7
 clear hr7 hs7
 replace hE:=Qc hE (hx4.trans hx7)
 refine Qd (Qj (v7) rfl) ?_
 refine Qf (Qa ?_)
 cases hz
 exact Q4 (Yj rfl rfl ⟨_,M7,_,rfl,hE,(hS.sel (H':=[.row v7 3 1]) [0] (by decide) rfl),v7,rfl,rfl,hv7⟩)
def postGood_j1 (c8:Bool):Option Bool :=
 some c8
def postGood_j2 (c32:Bool):Option Bool :=
 some c32
def postGoodD (fu:Nat) (x1:GCase):Option Bool :=
 (bif !x1.begun then
 (bif !x1.fixed then
 (bif (x1.ops.length:Int)==0 then
 (bif (x1.deps.length:Int)==0 then
 (bif decide (x1.told=(Zr.zd:Vector Bool 6)) then
 (bif decide (x1.known=(Zr.zd:Vector Bool 6)) then
 (bif decide (x1.has=(Zr.zd:Vector Bool 4)) then
 postGood_j1 (decide (x1.values=(Zr.zd:Vector Int 4)))
 else
 postGood_j1 false)
 else
 postGood_j1 false)
 else
 postGood_j1 false)
 else
 postGood_j1 false)
 else
 postGood_j1 false)
 else
 postGood_j1 false)
 else
 (some (goodOpsZ x1.ops)).bind fun r38 =>
 (bif r38 then
 (some (risingZ x1.deps)).bind fun r43 =>
 postGood_j2 r43
 else
 postGood_j2 false))
set_option maxRecDepth 100000 in
set_option maxHeartbeats 4000000 in
theorem postGood_ok {M:Mm} {w:World} {cx1:List Value} {x1:GCase} {fu:Nat} {r:Bool} (hA:Agree M w) (hcx1:rep M cx1 x1) (hz:postGoodD fu x1=some r) :
    Calls Try.prog 39 #[.agg cx1.toArray] w (GivesV w (.bool r)):=by
 refine Zh Try.func39 rfl 53 rfl rfl (by kernel_rfl) fun T hT => ?_
 have hT_0:T 0 = .agg cx1.toArray:=hT 0
 clear hT
 have hE:=Qg w.heap.size noX M
 have hS:St w noX M [] w:=Zv hA
 rw [postGoodD] at hz
 refine Qh <|Qi ?_
 refine Qu (Yo (v := .agg cx1.toArray) (cs:=cx1) hT_0 rfl hS ?_)
 intro b3 w2 hb3 hS
 refine Qd (Qj (.bool false) rfl) ?_
 refine Qf (Qa ?_)
 refine Qh <|Qh <|Qi <|Qd (Qp fa49_0 rfl) <|Qd (Ql (.bool x1.begun) Jk rfl (hS.bvB 0 rfl) (GCase.p0 (rr hcx1))) <|Qd (Ye rfl) ?_
 refine Qf (Qa ?_)
 refine Qr rfl (fun hc4 => ?_) (fun hc4 => ?_)
 replace hz:=Qn hz hc4
 refine Qz (fun T' w' => ∃ M6 c8,Mm.ext w.heap.size noX M M6∧St w noX M6 [.box b3 cx1 49] w'∧T' 2 = .bool c8∧postGood_j1 c8=some r) ?_ ?_
 have hF10:=Qg w.heap.size noX M
 refine Qi <|Qd (Qp Jl rfl) <|Qd (Ql (.bool x1.fixed) Jk rfl (hS.bvB 0 rfl) (Kg (rr hcx1))) <|Qd (Ye rfl) <|Qd (Qe (.bool (!x1.fixed)) rfl) ?_
 rcases ic hz with ⟨hc11,hz⟩ | ⟨hc11,hz⟩<;>rw [hc11]
 refine Qk rfl rfl (Qp Vy rfl) ?_
 obtain ⟨v12,ev12,hv12⟩:=(Yw (rr hcx1))
 refine Qk rfl rfl (Ql v12 Vn rfl (hS.bvB 0 rfl) ev12) ?_
 obtain ⟨a13,c13,hv13,_⟩:=Q3 hv12
 refine Qk rfl rfl (Zk Z7 (Vw hv13 rfl)) <|Qk rfl rfl (Yc rfl rfl) <|Q2 2 rfl ?_
 rcases ic hz with ⟨hc14,hz⟩ | ⟨hc14,hz⟩<;>rw [hc14]
 refine Qk rfl rfl (Qp K6 rfl) ?_
 obtain ⟨v15,ev15,hv15⟩:=(V7 (rr hcx1))
 refine Qk rfl rfl (Ql v15 Z2 rfl (hS.bvB 0 rfl) ev15) ?_
 obtain ⟨a16,c16,hv16,_⟩:=Q3 hv15
 refine Qk rfl rfl (Zk Qq (Vw hv16 rfl)) <|Qk rfl rfl (Yc rfl rfl) <|Q2 2 rfl ?_
 rcases ic hz with ⟨hc17,hz⟩ | ⟨hc17,hz⟩<;>rw [hc17]
 refine Qk rfl rfl (Qp fa49_3 rfl) ?_
 have ha18:=(K7 (rr hcx1))
 refine Qk rfl rfl (Zg ta45 rfl (hS.bvB 0 rfl) (Rep.len ha18)) ?_
 have z19:rep M (Zr.zc (Vector Bool 6)) (Zr.zd:Vector Bool 6):=Zr.zr
 refine Qk rfl rfl (Y_zarr tz45 Jq) <|Qk rfl rfl (Y_eqA rfl rfl eg45 ha18 z19) <|Q2 2 rfl ?_
 rcases ic hz with ⟨hc20,hz⟩ | ⟨hc20,hz⟩<;>rw [hc20]
 refine Qk rfl rfl (Qp fa49_4 rfl) ?_
 have ha21:=(GCase.p4 (rr hcx1))
 refine Qk rfl rfl (Zg ta45 rfl (hS.bvB 0 rfl) (Rep.len ha21)) ?_
 have z22:rep M (Zr.zc (Vector Bool 6)) (Zr.zd:Vector Bool 6):=Zr.zr
 refine Qk rfl rfl (Y_zarr tz45 Jq) <|Qk rfl rfl (Y_eqA rfl rfl eg45 ha21 z22) <|Q2 2 rfl ?_
 rcases ic hz with ⟨hc23,hz⟩ | ⟨hc23,hz⟩<;>rw [hc23]
 refine Qk rfl rfl (Qp fa49_6 rfl) ?_
 have ha24:=(GCase.p6 (rr hcx1))
 refine Qk rfl rfl (Zg ta46 rfl (hS.bvB 0 rfl) (Rep.len ha24)) ?_
 have z25:rep M (Zr.zc (Vector Bool 4)) (Zr.zd:Vector Bool 4):=Zr.zr
 refine Qk rfl rfl (Y_zarr tz46 ia46) <|Qk rfl rfl (Y_eqA rfl rfl eg46 ha24 z25) <|Q2 2 rfl ?_
 rcases ic hz with ⟨hc26,hz⟩ | ⟨hc26,hz⟩<;>rw [hc26]
 refine Qk rfl rfl (Qp fa49_7 rfl) ?_
 have ha27:=(GCase.p7 (rr hcx1))
 refine Qk rfl rfl (Zg ta47 rfl (hS.bvB 0 rfl) (Rep.len ha27)) ?_
 have z28:rep M (Zr.zc (Vector Int 4)) (Zr.zd:Vector Int 4):=Zr.zr
 refine Qk rfl rfl (Y_zarr tz47 ia47) <|Qk rfl rfl (Y_eqA rfl rfl eg47 ha27 z28) <|Q2 2 rfl ?_
 refine Qf (Qa ?_)
 exact ⟨M,(decide (x1.values=(Zr.zd:Vector Int 4))),hF10,hS,rfl,hz⟩
 refine Q2 6 rfl ?_
 refine Qf (Qa ?_)
 exact ⟨M,false,hF10,hS,rfl,hz⟩
 refine Q2 12 rfl ?_
 refine Qf (Qa ?_)
 exact ⟨M,false,hF10,hS,rfl,hz⟩
 refine Q2 18 rfl ?_
 refine Qf (Qa ?_)
 exact ⟨M,false,hF10,hS,rfl,hz⟩
 refine Q2 24 rfl ?_
 refine Qf (Qa ?_)
 exact ⟨M,false,hF10,hS,rfl,hz⟩
 refine Q2 30 rfl ?_
 refine Qf (Qa ?_)
 exact ⟨M,false,hF10,hS,rfl,hz⟩
 refine Q2 36 rfl ?_
 refine Qf (Qa ?_)
 exact ⟨M,false,hF10,hS,rfl,hz⟩
 rintro T7 w5 ⟨M6,c8,hx9,hS,hT7_2,hz⟩
 rw [postGood_j1] at hz
 cases hz
 exact Q4 (Qs (Yj rfl hT7_2 ⟨rfl,(Qm hS).kept⟩))
 replace hz:=Qo hz hc4
 refine Qv (Qa ?_)
 refine Qz (fun T' w' => ∃ M30 c32,Mm.ext w.heap.size noX M M30∧St w noX M30 [.box b3 cx1 49] w'∧T' 2 = .bool c32∧postGood_j2 c32=some r) ?_ ?_
 have hF34:=Qg w.heap.size noX M
 refine Qi <|Qd (Qp Vy rfl) ?_
 obtain ⟨v35,ev35,hv35⟩:=(Yw (rr hcx1))
 refine Qd (Ql v35 Vn rfl (hS.bvB 0 rfl) ev35) ?_
 obtain ⟨r38,hr37,hz⟩:=Qb hz
 replace hr37:=Option.some.inj hr37
 refine Qu (Z4 (vs:=[v35]) (v := .bool r38) cb60 (Zu rfl) hS (hr37 ▸ (c_goodOps hS.agree hv35)) ?_)
 intro w36 hS
 refine Qd (Qe (.bool r38) rfl) ?_
 rcases ic hz with ⟨hc39,hz⟩ | ⟨hc39,hz⟩<;>rw [hc39]
 refine Qk rfl rfl (Qp K6 rfl) ?_
 obtain ⟨v40,ev40,hv40⟩:=(V7 (rr hcx1))
 refine Qk rfl rfl (Ql v40 Z2 rfl (hS.bvB 0 rfl) ev40) ?_
 obtain ⟨r43,hr42,hz⟩:=Qb hz
 replace hr42:=Option.some.inj hr42
 refine Km rfl rfl (Z4 (vs:=[v40]) (v := .bool r43) cb61 (Zu rfl) hS (hr42 ▸ (Ku hS.agree hv40)) ?_)
 intro w41 hS
 refine Q2 2 rfl ?_
 refine Qf (Qa ?_)
 exact ⟨M,r43,hF34,hS,rfl,hz⟩
 refine Q2 5 rfl ?_
 refine Qf (Qa ?_)
 exact ⟨M,false,hF34,hS,rfl,hz⟩
 rintro T31 w29 ⟨M30,c32,hx33,hS,hT31_2,hz⟩
 rw [postGood_j2] at hz
 cases hz
 exact Q4 (Yj rfl hT31_2 ⟨rfl,(Qm hS).kept⟩)
def whole_j1 (y10:Int) (rec11:Int→Option Bool):Option Bool :=
 rec11 (IntKind.wrap .i64 (y10+1))
def whole_j2 (y10:Int) (rec11:Int→Option Bool) (c32:Bool):Option Bool :=
 (bif c32 then
 some false
 else
 whole_j1 y10 rec11)
def whole_l1 (x1:GCase) (x2:Int):Nat→Int→Option Bool
 | 0,_=>none
 | n+1,y10 =>
 (bif decide (y10<(x1.ops.length:Int)) then
 (idx x1.ops y10).bind fun x22 =>
 (some x22).bind fun d28 =>
 (some (shardZ d28.key)).bind fun r38 =>
 (bif r38==x2 then
 (inR y10 4).bind fun _ =>
 (idxV x1.has y10).bind fun x42 =>
 whole_j2 y10 (whole_l1 x1 x2 n) (!x42)
 else
 whole_j2 y10 (whole_l1 x1 x2 n) false)
 else
 some true)
def wholeD (fu:Nat) (x1:GCase) (x2:Int):Option Bool :=
 whole_l1 x1 x2 fu 0
set_option maxRecDepth 100000 in
set_option maxHeartbeats 4000000 in
theorem whole_ok {M:Mm} {w:World} {cx1:List Value} {x1:GCase} {x2:Int} {fu:Nat} {r:Bool} (hA:Agree M w) (hcx1:rep M cx1 x1) (hz:wholeD fu x1 x2=some r) :
    Calls Try.prog 58 #[.agg cx1.toArray,.int .i64 x2] w (GivesV w (.bool r)):=by
 refine Zh Try.func58 rfl 28 rfl rfl (by kernel_rfl) fun T hT => ?_
 have hT_0:T 0 = .agg cx1.toArray:=hT 0
 have hT_1:T 1 = .int .i64 x2:=hT 1
 clear hT
 have hE:=Qg w.heap.size noX M
 have hS:St w noX M [] w:=Zv hA
 rw [wholeD] at hz
 refine Qh <|Qi ?_
 refine Qu (Yo (v := .agg cx1.toArray) (cs:=cx1) hT_0 rfl hS ?_)
 intro b4 w3 hb4 hS
 refine Qd (Qj (.bool false) rfl) ?_
 refine Qf (Qa ?_)
 refine Qh <|Qh <|Qi <|Qd (Qp Vy rfl) ?_
 obtain ⟨v5,ev5,hv5⟩:=(Yw (rr hcx1))
 refine Qd (Ql v5 Vn rfl (hS.bvB 0 rfl) ev5) ?_
 obtain ⟨a6,c6,hv6,_⟩:=Q3 hv5
 refine Qd (Zk Z7 (Vw hv6 rfl)) <|Qd (Qe (.int .i64 0) rfl) ?_
 refine Qf (Qa ?_)
 refine Qy ?_
 refine Zy (fun k12 T' w' => ∃ M8 y10,Mm.ext w.heap.size noX M M8∧St w noX M8 [.box b4 cx1 49] w'∧T' 1 = .int .i64 x2∧T' 2 = .pointer (some ⟨b4,0,none⟩)∧T' 8=v5∧T' 9 = .int .i64 (x1.ops.length:Int)∧T' 10 = .int .i64 y10∧whole_l1 x1 x2 k12 y10=some r) fu ?_ ?_ ?_
 exact ⟨M,(0:Int),(Qg _ _ _),hS,hT_1,rfl,rfl,rfl,rfl,hz⟩
 rintro T' w' ⟨_,_,_,_,_,_,_,_,_,hz⟩
 rw [whole_l1] at hz
 cases hz
 intro k12
 rintro T9 w7 ⟨M8,y10,hx14,hS,hT9_1,hT9_2,hT9_8,hT9_9,hT9_10,hz⟩
 replace hcx1:=Rep.mono hx14.1 hcx1
 replace hv5:=Qw hx14.1 hv5
 have hF13:=hx14
 rw [whole_l1] at hz
 obtain ⟨rec11,hrec11⟩ : ∃ f,f=whole_l1 x1 x2 k12:=⟨_,rfl⟩
 rw [← hrec11] at hz
 refine Qh <|Qi <|Qd (Zq hT9_10 hT9_9) ?_
 refine Qf (Qa ?_)
 refine Qh ?_
 refine Qr rfl (fun hc15 => ?_) (fun hc15 => ?_)
 replace hz:=Qn hz hc15
 refine Qv (Qa ?_)
 refine Qz (fun T' w' => ∃ M17,Mm.ext w.heap.size noX M8 M17∧St w noX M17 [.box b4 cx1 49] w'∧T' 1 = .int .i64 x2∧T' 2 = .pointer (some ⟨b4,0,none⟩)∧T' 8=v5∧T' 9 = .int .i64 (x1.ops.length:Int)∧T' 10 = .int .i64 y10∧whole_j1 y10 rec11=some r) ?_ ?_
 have hF20:=Qg w.heap.size noX M8
 refine Qy <|Qh <|Qi <|Qd (Qe (.int .i64 y10) hT9_10) ?_
 obtain ⟨x22,hx21,hz⟩:=Qb hz
 obtain ⟨b21,o21,c21,p21,hv21,hi21,hj21,hM21,hr21⟩:=Yd hv5 hx21
 replace hr21:rep _ (sl p21 (o21+Int.toNat y10*3) 3) x22:=hr21
 refine Qd (Yq il27 hT9_8 hv21 hT9_10 hi21 hj21) ?_
 have ha23:=hr21
 refine Qd (Zg ta65 rfl (hS.bvM hM21) (Rep.len ha23)) ?_
 refine Qu (Zf tz65 hS ?_)
 intro b25 w24 hb25 hS
 have zb25:rep M8 (Zr.zc GOp) (Zr.zd:GOp):=Zr.zr
 refine Qd (Qj (.int .i64 y10) rfl) ?_
 obtain ⟨d28,hd27,hz⟩:=Qb hz
 refine Qu (Q8 0 3 hS rfl zb25 rfl rfl ha23 rfl rfl (Lf (rr zb25) ha23) hd27 ?_)
 intro cs27 w26 hb27 ha27 hs27 hS
 refine Qf (Qa ?_)
 refine Qz (fun T' w' => ∃ M30 c32,Mm.ext w.heap.size noX M8 M30∧St w noX M30 [.box b25 cs27 65,.box b4 cx1 49] w'∧T' 1 = .int .i64 x2∧T' 2 = .pointer (some ⟨b4,0,none⟩)∧T' 8=v5∧T' 9 = .int .i64 (x1.ops.length:Int)∧T' 10 = .int .i64 y10∧T' 26 = .bool c32∧whole_j2 y10 rec11 c32=some r) ?_ ?_
 have hF35:=Qg w.heap.size noX M8
 refine Qi <|Qd (Qp fa65_1 rfl) <|Qd (Ql (.int .i64 d28.key) Z5 rfl (hS.bvB 0 rfl) (GOp.p1 (rr hb27))) ?_
 obtain ⟨r38,hr37,hz⟩:=Qb hz
 replace hr37:=Option.some.inj hr37
 refine Qu (Z4 (vs:=[.int .i64 d28.key]) (v := .int .i64 r38) cb75 (Zu rfl) hS (hr37 ▸ (c_shard)) ?_)
 intro w36 hS
 refine Qd (Qe (.int .i64 x2) hT9_1) <|Qd (Yc rfl rfl) <|Qd (Qe (.bool (r38==x2)) rfl) ?_
 rcases ic hz with ⟨hc39,hz⟩ | ⟨hc39,hz⟩<;>rw [hc39]
 refine Qk rfl rfl (Qe (.int .i64 y10) rfl) <|Qk rfl rfl (Qp fa49_6 hT9_2) ?_
 obtain ⟨u40,hx41,hz⟩:=Qb hz
 obtain ⟨hx41a,hx41b⟩:=Qt hx41
 refine Qk rfl rfl (Za ia46 rfl rfl hx41a hx41b) ?_
 obtain ⟨x42,hx43,hz⟩:=Qb hz
 refine Qk rfl rfl (Ql (.bool x42) Jk rfl (hS.bvB 1 rfl) (vp (k:=1) rfl rfl (GCase.p6 (rr hcx1)) hx43)) <|Qk rfl rfl (Ye rfl) <|Qd (Zp (.bool (!x42)) rfl rfl) ?_
 refine Qf (Qa ?_)
 exact ⟨M8,(!x42),hF35,hS,hT9_1,hT9_2,hT9_8,hT9_9,hT9_10,rfl,hz⟩
 refine Q2 6 rfl ?_
 refine Qf (Qa ?_)
 exact ⟨M8,false,hF35,hS,hT9_1,hT9_2,hT9_8,hT9_9,hT9_10,rfl,hz⟩
 rintro T31 w29 ⟨M30,c32,hx33,hS,hT31_1,hT31_2,hT31_8,hT31_9,hT31_10,hT31_26,hz⟩
 replace hF20:=Qc hF20 hx33
 rw [whole_j2] at hz
 refine Qr hT31_26 (fun hc34 => ?_) (fun hc34 => ?_)
 replace hz:=Qn hz hc34
 refine Qh <|Qi <|Qd (Qj (.bool false) rfl) ?_
 refine Qf (Qa ?_)
 cases hz
 exact Q4 (Zi (Qs (Qs (Zi (Qs (Yj rfl rfl ⟨rfl,(Qm (Qm hS)).kept⟩))))))
 replace hz:=Qo hz hc34
 refine Qv (Q7 ?_)
 refine (Qa ?_)
 exact ⟨M30,hF20,(Yk hS hb25),hT31_1,hT31_2,hT31_8,hT31_9,hT31_10,hz⟩
 rintro T18 w16 ⟨M17,hx19,hS,hT18_1,hT18_2,hT18_8,hT18_9,hT18_10,hz⟩
 replace hF13:=Qc hF13 hx19
 rw [whole_j1] at hz
 refine Qi <|Qd (Zz hT18_10 rfl) <|Qd (Qe (.int .i64 (IntKind.wrap .i64 (y10+1))) rfl) ?_
 refine Qf (Qa ?_)
 exact ⟨M17,(IntKind.wrap .i64 (y10+1)),hF13,hS,hT18_1,hT18_2,hT18_8,hT18_9,rfl,(by rw [← hrec11];exact hz)⟩
 replace hz:=Qo hz hc15
 refine Zs <|Q0 <|Q0 <|Zt ?_
 refine (Qa ?_)
 refine Qh <|Qi <|Qd (Qj (.bool true) rfl) ?_
 refine Qf (Qa ?_)
 cases hz
 exact Q4 (Yj rfl rfl ⟨rfl,(Qm hS).kept⟩)
def again_j2 (y15:Int) (rec16:(List GFrame)→Int→Option (List GFrame)) (l24:List GFrame):Option (List GFrame) :=
 rec16 l24 (IntKind.wrap .i64 (y15+1))
def again_j4 (x1:GCase) (x2:Int) (l13:List GFrame) (y15:Int) (rec16:(List GFrame)→Int→Option (List GFrame)) (c57:Bool):Option (List GFrame) :=
 (bif c57 then
 (some ({ kind:=3,node:=y15,id:=x2,ops:=x1.ops,deps:=x1.deps,at_:=Zr.zd,vals:=Zr.zd }:GFrame)).bind fun d63 =>
 (app l13 ([d63]:List GFrame)).bind fun l68 =>
 again_j2 y15 rec16 l68
 else
 again_j2 y15 rec16 l13)
def again_j3 (fu:Nat) (x1:GCase) (x2:Int) (l13:List GFrame) (y15:Int) (rec16:(List GFrame)→Int→Option (List GFrame)) (r38:Bool) (c43:Bool):Option (List GFrame) :=
 (bif c43 then
 (some ({ kind:=1,node:=y15,id:=x2,ops:=x1.ops,deps:=Zr.zd,at_:=Zr.zd,vals:=Zr.zd }:GFrame)).bind fun d48 =>
 (app l13 ([d48]:List GFrame)).bind fun l53 =>
 again_j2 y15 rec16 l53
 else
 (bif x1.fixed then
 (inR y15 6).bind fun _ =>
 (idxV x1.known y15).bind fun x76 =>
 (bif !x76 then
 again_j4 x1 x2 l13 y15 rec16 true
 else
 (bif r38 then
 (some (ofZ y15)).bind fun r83 =>
 (wholeD fu x1 r83).bind fun r87 =>
 again_j4 x1 x2 l13 y15 rec16 (!r87)
 else
 again_j4 x1 x2 l13 y15 rec16 false))
 else
 again_j4 x1 x2 l13 y15 rec16 false))
def again_l1 (fu:Nat) (x1:GCase) (x2:Int):Nat→(List GFrame)→Int→Option (List GFrame)
 | 0,_,_=>none
 | n+1,l13,y15 =>
 (bif decide (y15<6) then
 (some (ofZ y15)).bind fun r34 =>
 (some (touchesZ x1.ops r34)).bind fun r38 =>
 (bif !x1.fixed then
 (bif r38 then
 (inR y15 6).bind fun _ =>
 (idxV x1.told y15).bind fun x94 =>
 again_j3 fu x1 x2 l13 y15 (again_l1 fu x1 x2 n) r38 (!x94)
 else
 again_j3 fu x1 x2 l13 y15 (again_l1 fu x1 x2 n) r38 false)
 else
 again_j3 fu x1 x2 l13 y15 (again_l1 fu x1 x2 n) r38 false)
 else
 some l13)
def again_j1 (fu:Nat) (x1:GCase) (x2:Int):Option (List GFrame) :=
 again_l1 fu x1 x2 fu ([]:List GFrame) 0
def again_j5 (fu:Nat) (x1:GCase) (x2:Int) (c100:Bool):Option (List GFrame) :=
 (bif c100 then
 some []
 else
 again_j1 fu x1 x2)
def againD (fu:Nat) (x1:GCase) (x2:Int):Option (List GFrame) :=
 (postGoodD fu x1).bind fun r107 =>
 (bif !r107 then
 again_j5 fu x1 x2 true
 else
 (bif !x1.begun then
 again_j5 fu x1 x2 true
 else
 (bif decide (x2<0) then
 again_j5 fu x1 x2 true
 else
 (bif decide (x2≥32) then
 again_j5 fu x1 x2 true
 else
 (some (hasZ x1.deps x2)).bind fun r115 =>
 again_j5 fu x1 x2 r115))))
set_option maxRecDepth 100000 in
set_option maxHeartbeats 4000000 in
theorem again_ok {M:Mm} {w:World} {cx1:List Value} {x1:GCase} {x2:Int} {fu:Nat} {r:(List GFrame)} (hA:Agree M w) (hcx1:rep M cx1 x1) (hz:againD fu x1 x2=some r) :
    Calls Try.prog 50 #[.agg cx1.toArray,.int .i64 x2] w (Gives M w (fun M' u=>repL M' u r)):=by
 refine Zh Try.func50 rfl 92 rfl rfl (by kernel_rfl) fun T hT => ?_
 have hT_0:T 0 = .agg cx1.toArray:=hT 0
 have hT_1:T 1 = .int .i64 x2:=hT 1
 clear hT
 have hE:=Qg w.heap.size noX M
 have hS:St w noX M [] w:=Zv hA
 rw [againD] at hz
 refine Qh <|Qi ?_
 refine Qu (Yo (v := .agg cx1.toArray) (cs:=cx1) hT_0 rfl hS ?_)
 intro b4 w3 hb4 hS
 refine Qd (Qj ((.slice none 0 0)) rfl) ?_
 refine Qf (Qa ?_)
 refine Qh <|Qi <|Qd (Qj ((.slice none 0 0)) rfl) ?_
 refine Qf (Qa ?_)
 refine Qz (fun T' w' => ∃ M6,Mm.ext w.heap.size noX M M6∧St w noX M6 [.box b4 cx1 49] w'∧T' 1 = .int .i64 x2∧T' 2 = .pointer (some ⟨b4,0,none⟩)∧T' 5=(.slice none 0 0)∧again_j1 fu x1 x2=some r) ?_ ?_
 have hF96:=Qg w.heap.size noX M
 refine Qz (fun T' w' => ∃ M98 c100,Mm.ext w.heap.size noX M M98∧St w noX M98 [.box b4 cx1 49] w'∧T' 1 = .int .i64 x2∧T' 2 = .pointer (some ⟨b4,0,none⟩)∧T' 5=(.slice none 0 0)∧T' 29 = .bool c100∧again_j5 fu x1 x2 c100=some r) ?_ ?_
 have hF103:=Qg w.heap.size noX M
 refine Qi ?_
 have ha104:=(rr hcx1)
 refine Qd (Zg Vb rfl (hS.bvB 0 rfl) (Rep.len ha104)) ?_
 obtain ⟨r107,hr106,hz⟩:=Qb hz
 refine Qu (Z4 (vs:=[.agg (sl cx1 (0) 24).toArray]) (v := .bool r107) cb39 (Zu rfl) hS (postGood_ok hS.agree ha104 hr106) ?_)
 intro w105 hS
 refine Qd (Ye rfl) <|Qd (Qe (.bool (!r107)) rfl) ?_
 rcases ic hz with ⟨hc108,hz⟩ | ⟨hc108,hz⟩<;>rw [hc108]
 refine Q2 18 rfl ?_
 refine Qf (Qa ?_)
 exact ⟨M,true,hF103,hS,hT_1,rfl,rfl,rfl,hz⟩
 refine Qk rfl rfl (Qp fa49_0 rfl) <|Qk rfl rfl (Ql (.bool x1.begun) Jk rfl (hS.bvB 0 rfl) (GCase.p0 (rr hcx1))) <|Qk rfl rfl (Ye rfl) <|Q2 2 rfl ?_
 rcases ic hz with ⟨hc109,hz⟩ | ⟨hc109,hz⟩<;>rw [hc109]
 refine Q2 13 rfl ?_
 refine Qf (Qa ?_)
 exact ⟨M,true,hF103,hS,hT_1,rfl,rfl,rfl,hz⟩
 refine Qk rfl rfl (Qe (.int .i64 x2) hT_1) <|Qk rfl rfl (Zq rfl rfl) <|Q2 2 rfl ?_
 rcases ic hz with ⟨hc110,hz⟩ | ⟨hc110,hz⟩<;>rw [hc110]
 refine Q2 9 rfl ?_
 refine Qf (Qa ?_)
 exact ⟨M,true,hF103,hS,hT_1,rfl,rfl,rfl,hz⟩
 refine Qk rfl rfl (Qe (.int .i64 x2) hT_1) <|Qk rfl rfl (Va rfl rfl) <|Q2 2 rfl ?_
 rcases ic hz with ⟨hc111,hz⟩ | ⟨hc111,hz⟩<;>rw [hc111]
 refine Q2 5 rfl ?_
 refine Qf (Qa ?_)
 exact ⟨M,true,hF103,hS,hT_1,rfl,rfl,rfl,hz⟩
 refine Qk rfl rfl (Qp K6 rfl) ?_
 obtain ⟨v112,ev112,hv112⟩:=(V7 (rr hcx1))
 refine Qk rfl rfl (Ql v112 Z2 rfl (hS.bvB 0 rfl) ev112) <|Qk rfl rfl (Qe (.int .i64 x2) hT_1) ?_
 obtain ⟨r115,hr114,hz⟩:=Qb hz
 replace hr114:=Option.some.inj hr114
 refine Km rfl rfl (Z4 (vs:=[v112,.int .i64 x2]) (v := .bool r115) cb62 (Ya rfl rfl) hS (hr114 ▸ (Vr hS.agree hv112)) ?_)
 intro w113 hS
 refine Qd (Ze (.bool r115) rfl rfl) ?_
 refine Qf (Qa ?_)
 exact ⟨M,r115,hF103,hS,hT_1,rfl,rfl,rfl,hz⟩
 rintro T99 w97 ⟨M98,c100,hx101,hS,hT99_1,hT99_2,hT99_5,hT99_29,hz⟩
 replace hE:=Qc hE hx101
 replace hF96:=Qc hF96 hx101
 rw [again_j5] at hz
 refine Qr hT99_29 (fun hc102 => ?_) (fun hc102 => ?_)
 replace hz:=Qn hz hc102
 refine Qh <|Qi <|Qd (Qj ((.slice none 0 0)) rfl) ?_
 refine Qf (Qa ?_)
 cases hz
 exact Q4 (Qs (Yj rfl rfl (Zj (Qm hS) hE (Z3 _))))
 replace hz:=Qo hz hc102
 refine Qv (Qa ?_)
 exact ⟨M98,hF96,hS,hT99_1,hT99_2,hT99_5,hz⟩
 rintro T7 w5 ⟨M6,hx8,hS,hT7_1,hT7_2,hT7_5,hz⟩
 replace hcx1:=Rep.mono hx8.1 hcx1
 replace hE:=Qc hE hx8
 rw [again_j1] at hz
 refine Qh <|Qh <|Qi <|Qd (Qe (.int .i64 0) rfl) ?_
 refine Qf (Qa ?_)
 refine Qy ?_
 replace hS:=hS.nilRow 118 7
 refine Zy (fun k17 T' w' => ∃ M11 v14 l13 y15,Mm.ext w.heap.size noX M6 M11∧St w noX M11 [.row v14 118 7,.box b4 cx1 49] w'∧repL M11 v14 l13∧T' 1 = .int .i64 x2∧T' 2 = .pointer (some ⟨b4,0,none⟩)∧T' 5=v14∧T' 30 = .int .i64 y15∧again_l1 fu x1 x2 k17 l13 y15=some r) fu ?_ ?_ ?_
 exact ⟨M6,(.slice none 0 0),([]:List GFrame),(0:Int),(Qg _ _ _),hS,(Z3 _),hT7_1,hT7_2,hT7_5,rfl,hz⟩
 rintro T' w' ⟨_,_,_,_,_,_,_,_,_,_,_,hz⟩
 rw [again_l1] at hz
 cases hz
 intro k17
 rintro T12 w10 ⟨M11,v14,l13,y15,hx19,hS,hv14,hT12_1,hT12_2,hT12_5,hT12_30,hz⟩
 replace hcx1:=Rep.mono hx19.1 hcx1
 replace hE:=Qc hE hx19
 have hF18:=hx19
 rw [again_l1] at hz
 obtain ⟨rec16,hrec16⟩ : ∃ f,f=again_l1 fu x1 x2 k17:=⟨_,rfl⟩
 rw [← hrec16] at hz
 refine Qh <|Qi <|Qd (Zq hT12_30 rfl) ?_
 refine Qf (Qa ?_)
 refine Qh ?_
 refine Qr rfl (fun hc20 => ?_) (fun hc20 => ?_)
 replace hz:=Qn hz hc20
 refine Qv (Qa ?_)
 refine Qz (fun T' w' => ∃ M22 v25 l24,Mm.ext w.heap.size noX M11 M22∧St w noX M22 [.row v25 118 7,.box b4 cx1 49] w'∧repL M22 v25 l24∧T' 1 = .int .i64 x2∧T' 2 = .pointer (some ⟨b4,0,none⟩)∧T' 5=v25∧T' 30 = .int .i64 y15∧again_j2 y15 rec16 l24=some r) ?_ ?_
 have hF27:=Qg w.heap.size noX M11
 refine Qy <|Qh <|Qi <|Qd (Qe (.int .i64 y15) hT12_30) <|Qd (Qj (.int .i64 y15) rfl) ?_
 refine Qf (Qa ?_)
 refine Qh <|Yt [.box b4 cx1 49] [] Z6 hS fun w28 hS hG29 hR30=>wy 0 rfl (Qp Vy hT12_2) (fun _=>hR30) ?_
 obtain ⟨v31,ev31,hv31⟩:=(Yw (rr hcx1))
 refine Y6 1 rfl (Ql v31 Vn rfl (Ym 0 rfl) ev31) hR30 <|wy 2 rfl (Qe (.int .i64 y15) rfl) (fun _=>hR30) ?_
 obtain ⟨r34,hr33,hz⟩:=Qb hz
 replace hr33:=Option.some.inj hr33
 refine w1 3 rfl (Z4 (vs:=[.int .i64 y15]) (v := .int .i64 r34) cb72 (Zu rfl) hS (hr33 ▸ (c_of)) ?_)
 intro w32 hS
 refine Yr hS hG29 fun hR35 => ?_
 obtain ⟨r38,hr37,hz⟩:=Qb hz
 replace hr37:=Option.some.inj hr37
 refine w1 4 rfl (Z4 (vs:=[v31,.int .i64 r34]) (v := .bool r38) cb71 (Ya rfl rfl) hS (hr37 ▸ (Jb hS.agree hv31)) ?_)
 intro w36 hS
 refine Yr hS hG29 fun hR39=>wy 5 rfl (Qj (.bool r38) rfl) (fun _=>hR39) ?_
 refine wd (Qa ?_)
 refine Qy ?_
 refine Qz (fun T' w' => ∃ M41 c43,Mm.ext w.heap.size noX M11 M41∧St w noX M41 [.row v14 118 7,.box b4 cx1 49] w'∧T' 1 = .int .i64 x2∧T' 2 = .pointer (some ⟨b4,0,none⟩)∧T' 5=v14∧T' 6 = .int .i64 y15∧T' 7 = .bool r38∧T' 30 = .int .i64 y15∧T' 38 = .bool c43∧again_j3 fu x1 x2 l13 y15 rec16 r38 c43=some r) ?_ ?_
 have hF89:=Qg w.heap.size noX M11
 refine Qi <|Qd (Qp Jl hT12_2) <|Qd (Ql (.bool x1.fixed) Jk rfl (hS.bvB 1 rfl) (Kg (rr hcx1))) <|Qd (Ye rfl) <|Qd (Qe (.bool (!x1.fixed)) rfl) ?_
 rcases ic hz with ⟨hc90,hz⟩ | ⟨hc90,hz⟩<;>rw [hc90]
 refine Q2 3 rfl ?_
 rcases ic hz with ⟨hc91,hz⟩ | ⟨hc91,hz⟩<;>subst hc91
 refine Qk rfl rfl (Qe (.int .i64 y15) rfl) <|Qk rfl rfl (Qp fa49_3 hT12_2) ?_
 obtain ⟨u92,hx93,hz⟩:=Qb hz
 obtain ⟨hx93a,hx93b⟩:=Qt hx93
 refine Qk rfl rfl (Za Jq rfl rfl hx93a hx93b) ?_
 obtain ⟨x94,hx95,hz⟩:=Qb hz
 refine Qk rfl rfl (Ql (.bool x94) Jk rfl (hS.bvB 1 rfl) (vp (k:=1) rfl rfl (K7 (rr hcx1)) hx95)) <|Qk rfl rfl (Ye rfl) <|Q2 2 rfl ?_
 refine Qf (Qa ?_)
 exact ⟨M11,(!x94),hF89,hS,hT12_1,hT12_2,hT12_5,rfl,rfl,hT12_30,rfl,hz⟩
 refine Q2 7 rfl ?_
 refine Qf (Qa ?_)
 exact ⟨M11,false,hF89,hS,hT12_1,hT12_2,hT12_5,rfl,rfl,hT12_30,rfl,hz⟩
 refine Q2 10 rfl ?_
 refine Qf (Qa ?_)
 exact ⟨M11,false,hF89,hS,hT12_1,hT12_2,hT12_5,rfl,rfl,hT12_30,rfl,hz⟩
 rintro T42 w40 ⟨M41,c43,hx44,hS,hT42_1,hT42_2,hT42_5,hT42_6,hT42_7,hT42_30,hT42_38,hz⟩
 replace hcx1:=Rep.mono hx44.1 hcx1
 replace hv14:=Qw hx44.1 hv14
 replace hF27:=Qc hF27 hx44
 rw [again_j3] at hz
 refine Qr hT42_38 (fun hc45 => ?_) (fun hc45 => ?_)
 replace hz:=Qn hz hc45
 refine Qi <|Qd (Qe (v14) hT42_5) <|Qd (Qe (.int .i64 y15) hT42_6) <|Qd (Qe (.int .i64 x2) hT42_1) <|Qd (Qp Vy hT42_2) ?_
 obtain ⟨v46,ev46,hv46⟩:=(Yw (rr hcx1))
 refine Qd (Ql v46 Vn rfl (hS.bvB 1 rfl) ev46) ?_
 have k47_0:=Kv (Zr.zr:rep M41 (Zr.zc GFrame) (Zr.zd:GFrame)) (ri 1:rep M41 _ _)
 have k47_1:=Kw k47_0 (ri y15:rep M41 _ _)
 have k47_2:=Kx k47_1 (ri x2:rep M41 _ _)
 have k47_3:=GFrame.w3 k47_2 (Q1 hv46)
 obtain ⟨d48,hd47,hz⟩:=Qb hz
 obtain ⟨cs47,hf47,ha47⟩ : ∃ cs,fillZ (([(0,1),(1,1),(2,1),(3,1),(4,1),(5,1),(6,1)]:List (Nat × Nat))[·]?) (Zr.zc GFrame) [(0,.int .i64 1),(1,.int .i64 y15),(2,.int .i64 x2),(3,v46)]=some cs∧rep M41 cs d48:=⟨_,(Zb (Zr.zr:rep M41 (Zr.zc GFrame) (Zr.zd:GFrame)) rfl rfl (Rep.len (ri 1:rep M41 _ _)) (by decide) (Zb k47_0 rfl rfl (Rep.len (ri y15:rep M41 _ _)) (by decide) (Zb k47_1 rfl rfl (Rep.len (ri x2:rep M41 _ _)) (by decide) (Zb k47_2 rfl (Q9 hv46) (Rep.len (Q1 hv46)) (by decide) Z8)))),Z9 (x:=({ kind:=1,node:=y15,id:=x2,ops:=x1.ops,deps:=Zr.zd,at_:=Zr.zd,vals:=Zr.zd }:GFrame)) k47_3 hd47⟩
 refine Qd (Zx [(0,.int .i64 1),(1,.int .i64 y15),(2,.int .i64 x2),(3,v46)] tb118 (Ys rfl (Ys rfl (Ys rfl (Ys rfl Vf)))) hf47) ?_
 refine Qu (Z0 (α := GFrame) (l:=([d48]:List GFrame)) [.agg cs47.toArray] tl96 (Ys rfl Vf) rfl rfl (by decide) (by decide) (by decide) hS (K5 ha47 Ji) ?_)
 intro v50 M50 w49 hx50 hv50 hS
 replace hv14:=Qw hx50.1 hv14
 obtain ⟨l53,hr52,hz⟩:=Qb hz
 obtain ⟨hy52,hs52⟩:=Z1 hr52
 refine Qu (Y3 (α := GFrame) (j:=0) tp96 hS rfl rfl rfl hv14 hv50 hy52 ?_)
 intro v52 M52 w51 hx52 hv52 hS
 rw [← hs52] at hv52
 clear hr52 hs52
 replace hF27:=Qc hF27 (hx50.trans hx52)
 refine Qd (Qj (v52) rfl) ?_
 refine Qf (Q7 ?_)
 refine (Q7 ?_)
 refine (Qa ?_)
 exact ⟨M52,v52,l53,hF27,hS,hv52,hT42_1,hT42_2,rfl,hT42_30,hz⟩
 replace hz:=Qo hz hc45
 refine Qz (fun T' w' => ∃ M55 c57,Mm.ext w.heap.size noX M41 M55∧St w noX M55 [.row v14 118 7,.box b4 cx1 49] w'∧T' 1 = .int .i64 x2∧T' 2 = .pointer (some ⟨b4,0,none⟩)∧T' 5=v14∧T' 6 = .int .i64 y15∧T' 30 = .int .i64 y15∧T' 60 = .bool c57∧again_j4 x1 x2 l13 y15 rec16 c57=some r) ?_ ?_
 have hF69:=Qg w.heap.size noX M41
 refine Yt [.box b4 cx1 49] [] Z6 hS fun w70 hS hG71 hR72=>wy 0 rfl (Qp Jl hT42_2) (fun _=>hR72) <|Y6 1 rfl (Ql (.bool x1.fixed) Jk rfl (Ym 0 rfl) (Kg (rr hcx1))) hR72 <|wy 2 rfl (Qe (.bool x1.fixed) rfl) (fun _=>hR72) ?_
 rcases ic hz with ⟨hc73,hz⟩ | ⟨hc73,hz⟩<;>rw [hc73]
 refine Vq 3 rfl rfl rfl (Qe (.int .i64 y15) hT42_6) (fun _=>hR72) <|Vq 4 rfl rfl rfl (Qp fa49_4 hT42_2) (fun _=>hR72) ?_
 obtain ⟨u74,hx75,hz⟩:=Qb hz
 obtain ⟨hx75a,hx75b⟩:=Qt hx75
 refine Vq 5 rfl rfl rfl (Za Jq rfl rfl hx75a hx75b) (fun _=>hR72) ?_
 obtain ⟨x76,hx77,hz⟩:=Qb hz
 refine Kh 6 rfl rfl rfl (Ql (.bool x76) Jk rfl (Ym 0 rfl) (vp (k:=1) rfl rfl (GCase.p4 (rr hcx1)) hx77)) hR72 <|Vq 7 rfl rfl rfl (Ye rfl) (fun _=>hR72) <|Vq 8 rfl rfl rfl (Qe (.bool (!x76)) rfl) (fun _=>hR72) ?_
 rcases ic hz with ⟨hc78,hz⟩ | ⟨hc78,hz⟩<;>rw [hc78]
 refine Yg 9 (j:=8) rfl rfl rfl rfl (fun _=>hR72) <|Yg 10 (j:=8) rfl rfl rfl rfl (fun _=>hR72) <|wsu 11 (j:=10) rfl rfl rfl (fun _=>hR72) <|wsu 12 (j:=10) rfl rfl rfl (fun _=>hR72) <|wsu 13 (j:=10) rfl rfl rfl (fun _=>hR72) <|wsu 14 (j:=10) rfl rfl rfl (fun _=>hR72) <|wsu 15 (j:=10) rfl rfl rfl (fun _=>hR72) <|Yg 16 (j:=8) rfl rfl rfl rfl (fun _=>hR72) <|Vq 17 rfl rfl rfl (Zp (.bool true) rfl rfl) (fun _=>hR72) <|wy 18 rfl (Zp (.bool true) rfl rfl) (fun _=>hR72) <|wy 19 rfl (Qj (.bool true) rfl) (fun _=>hR72) ?_
 refine wd (Qa ?_)
 exact ⟨M41,true,hF69,hS,hT42_1,hT42_2,hT42_5,hT42_6,hT42_30,rfl,hz⟩
 refine Vq 9 rfl rfl rfl (Qe (.bool r38) hT42_7) (fun _=>hR72) <|Vq 10 rfl rfl rfl (Qe (.bool r38) rfl) (fun _=>hR72) ?_
 rcases ic hz with ⟨hc79,hz⟩ | ⟨hc79,hz⟩<;>rw [hc79]
 have ha80:=(rr hcx1)
 refine Kh 11 rfl rfl rfl (Zg Vb hT42_2 (Ym 0 rfl) (Rep.len ha80)) hR72 <|Vq 12 rfl rfl rfl (Qe (.int .i64 y15) hT42_6) (fun _=>hR72) ?_
 obtain ⟨r83,hr82,hz⟩:=Qb hz
 replace hr82:=Option.some.inj hr82
 refine w1g 13 rfl rfl rfl (Z4 (vs:=[.int .i64 y15]) (v := .int .i64 r83) cb72 (Zu rfl) hS (hr82 ▸ (c_of)) ?_)
 intro w81 hS
 refine Yr hS hG71 fun hR84 => ?_
 obtain ⟨r87,hr86,hz⟩:=Qb hz
 refine w1g 14 rfl rfl rfl (Z4 (vs:=[.agg (sl cx1 (0) 24).toArray,.int .i64 r83]) (v := .bool r87) cb58 (Ya rfl rfl) hS (whole_ok hS.agree ha80 hr86) ?_)
 intro w85 hS
 refine Yr hS hG71 fun hR88=>Vq 15 rfl rfl rfl (Ye rfl) (fun _=>hR88) <|Vq 16 rfl rfl rfl (Zp (.bool (!r87)) rfl rfl) (fun _=>hR88) <|Vq 17 rfl rfl rfl (Ze (.bool (!r87)) rfl rfl) (fun _=>hR88) <|wy 18 rfl (Zp (.bool (!r87)) rfl rfl) (fun _=>hR88) <|wy 19 rfl (Qj (.bool (!r87)) rfl) (fun _=>hR88) ?_
 refine wd (Qa ?_)
 exact ⟨M41,(!r87),hF69,hS,hT42_1,hT42_2,hT42_5,hT42_6,hT42_30,rfl,hz⟩
 refine Yg 11 (j:=10) rfl rfl rfl rfl (fun _=>hR72) <|Yg 12 (j:=10) rfl rfl rfl rfl (fun _=>hR72) <|Yg 13 (j:=10) rfl rfl rfl rfl (fun _=>hR72) <|Yg 14 (j:=10) rfl rfl rfl rfl (fun _=>hR72) <|Yg 15 (j:=10) rfl rfl rfl rfl (fun _=>hR72) <|Vq 16 rfl rfl rfl (Ze (.bool false) rfl rfl) (fun _=>hR72) <|Vq 17 rfl rfl rfl (Ze (.bool false) rfl rfl) (fun _=>hR72) <|wy 18 rfl (Zp (.bool false) rfl rfl) (fun _=>hR72) <|wy 19 rfl (Qj (.bool false) rfl) (fun _=>hR72) ?_
 refine wd (Qa ?_)
 exact ⟨M41,false,hF69,hS,hT42_1,hT42_2,hT42_5,hT42_6,hT42_30,rfl,hz⟩
 refine Yg 3 (j:=2) rfl rfl rfl rfl (fun _=>hR72) <|Yg 4 (j:=2) rfl rfl rfl rfl (fun _=>hR72) <|Yg 5 (j:=2) rfl rfl rfl rfl (fun _=>hR72) <|Yg 6 (j:=2) rfl rfl rfl rfl (fun _=>hR72) <|Yg 7 (j:=2) rfl rfl rfl rfl (fun _=>hR72) <|Yg 8 (j:=2) rfl rfl rfl rfl (fun _=>hR72) <|wsu 9 (j:=8) rfl rfl rfl (fun _=>hR72) <|wsu 10 (j:=8) rfl rfl rfl (fun _=>hR72) <|wsu 11 (j:=10) rfl rfl rfl (fun _=>hR72) <|wsu 12 (j:=10) rfl rfl rfl (fun _=>hR72) <|wsu 13 (j:=10) rfl rfl rfl (fun _=>hR72) <|wsu 14 (j:=10) rfl rfl rfl (fun _=>hR72) <|wsu 15 (j:=10) rfl rfl rfl (fun _=>hR72) <|wsu 16 (j:=8) rfl rfl rfl (fun _=>hR72) <|Yg 17 (j:=2) rfl rfl rfl rfl (fun _=>hR72) <|wy 18 rfl (Ze (.bool false) rfl rfl) (fun _=>hR72) <|wy 19 rfl (Qj (.bool false) rfl) (fun _=>hR72) ?_
 refine wd (Qa ?_)
 exact ⟨M41,false,hF69,hS,hT42_1,hT42_2,hT42_5,hT42_6,hT42_30,rfl,hz⟩
 rintro T56 w54 ⟨M55,c57,hx58,hS,hT56_1,hT56_2,hT56_5,hT56_6,hT56_30,hT56_60,hz⟩
 replace hcx1:=Rep.mono hx58.1 hcx1
 replace hv14:=Qw hx58.1 hv14
 replace hF27:=Qc hF27 hx58
 rw [again_j4] at hz
 refine Qr hT56_60 (fun hc59 => ?_) (fun hc59 => ?_)
 replace hz:=Qn hz hc59
 refine Qi <|Qd (Qe (v14) hT56_5) <|Qd (Qe (.int .i64 y15) hT56_6) <|Qd (Qe (.int .i64 x2) hT56_1) <|Qd (Qp Vy hT56_2) ?_
 obtain ⟨v60,ev60,hv60⟩:=(Yw (rr hcx1))
 refine Qd (Ql v60 Vn rfl (hS.bvB 1 rfl) ev60) <|Qd (Qp K6 hT56_2) ?_
 obtain ⟨v61,ev61,hv61⟩:=(V7 (rr hcx1))
 refine Qd (Ql v61 Z2 rfl (hS.bvB 1 rfl) ev61) ?_
 have k62_0:=Kv (Zr.zr:rep M55 (Zr.zc GFrame) (Zr.zd:GFrame)) (ri 3:rep M55 _ _)
 have k62_1:=Kw k62_0 (ri y15:rep M55 _ _)
 have k62_2:=Kx k62_1 (ri x2:rep M55 _ _)
 have k62_3:=GFrame.w3 k62_2 (Q1 hv60)
 have k62_4:=GFrame.w4 k62_3 (Q1 hv61)
 obtain ⟨d63,hd62,hz⟩:=Qb hz
 obtain ⟨cs62,hf62,ha62⟩ : ∃ cs,fillZ (([(0,1),(1,1),(2,1),(3,1),(4,1),(5,1),(6,1)]:List (Nat × Nat))[·]?) (Zr.zc GFrame) [(0,.int .i64 3),(1,.int .i64 y15),(2,.int .i64 x2),(3,v60),(4,v61)]=some cs∧rep M55 cs d63:=⟨_,(Zb (Zr.zr:rep M55 (Zr.zc GFrame) (Zr.zd:GFrame)) rfl rfl (Rep.len (ri 3:rep M55 _ _)) (by decide) (Zb k62_0 rfl rfl (Rep.len (ri y15:rep M55 _ _)) (by decide) (Zb k62_1 rfl rfl (Rep.len (ri x2:rep M55 _ _)) (by decide) (Zb k62_2 rfl (Q9 hv60) (Rep.len (Q1 hv60)) (by decide) (Zb k62_3 rfl (Q9 hv61) (Rep.len (Q1 hv61)) (by decide) Z8))))),Z9 (x:=({ kind:=3,node:=y15,id:=x2,ops:=x1.ops,deps:=x1.deps,at_:=Zr.zd,vals:=Zr.zd }:GFrame)) k62_4 hd62⟩
 refine Qd (Zx [(0,.int .i64 3),(1,.int .i64 y15),(2,.int .i64 x2),(3,v60),(4,v61)] tb118 (Ys rfl (Ys rfl (Ys rfl (Ys rfl (Ys rfl Vf))))) hf62) ?_
 refine Qu (Z0 (α := GFrame) (l:=([d63]:List GFrame)) [.agg cs62.toArray] tl96 (Ys rfl Vf) rfl rfl (by decide) (by decide) (by decide) hS (K5 ha62 Ji) ?_)
 intro v65 M65 w64 hx65 hv65 hS
 replace hv14:=Qw hx65.1 hv14
 obtain ⟨l68,hr67,hz⟩:=Qb hz
 obtain ⟨hy67,hs67⟩:=Z1 hr67
 refine Qu (Y3 (α := GFrame) (j:=0) tp96 hS rfl rfl rfl hv14 hv65 hy67 ?_)
 intro v67 M67 w66 hx67 hv67 hS
 rw [← hs67] at hv67
 clear hr67 hs67
 replace hF27:=Qc hF27 (hx65.trans hx67)
 refine Qd (Qj (v67) rfl) ?_
 refine Qf (Q7 ?_)
 refine (Q7 ?_)
 refine (Qa ?_)
 exact ⟨M67,v67,l68,hF27,hS,hv67,hT56_1,hT56_2,rfl,hT56_30,hz⟩
 replace hz:=Qo hz hc59
 refine Qv (Q7 ?_)
 refine (Q7 ?_)
 refine (Qa ?_)
 exact ⟨M55,v14,l13,hF27,hS,hv14,hT56_1,hT56_2,hT56_5,hT56_30,hz⟩
 rintro T23 w21 ⟨M22,v25,l24,hx26,hS,hv25,hT23_1,hT23_2,hT23_5,hT23_30,hz⟩
 replace hF18:=Qc hF18 hx26
 rw [again_j2] at hz
 refine Qi <|Qd (Zz hT23_30 rfl) <|Qd (Qe (.int .i64 (IntKind.wrap .i64 (y15+1))) rfl) ?_
 refine Qf (Qa ?_)
 exact ⟨M22,v25,l24,(IntKind.wrap .i64 (y15+1)),hF18,hS,hv25,hT23_1,hT23_2,hT23_5,rfl,(by rw [← hrec16];exact hz)⟩
 replace hz:=Qo hz hc20
 refine Zs <|Q0 <|Q0 <|Zt ?_
 refine (Qa ?_)
 refine Qh <|Qi <|Qd (Qe (v14) hT12_5) <|Qd (Qj (v14) rfl) ?_
 refine Qf (Qa ?_)
 cases hz
 exact Q4 (Yj rfl rfl (Zj (Qm (Qm hS)) hE hv14))
def postBegin_j1 (fu:Nat) (x1:GTxn) (d10:GCase):Option (GCase × (List GFrame) × Int) :=
 (some (goodOpsZ x1.ops)).bind fun r15 =>
 (bif !r15 then
 (some ({ begun:=Zr.zd,fixed:=Zr.zd,ops:=Zr.zd,told:=Zr.zd,known:=Zr.zd,deps:=Zr.zd,has:=Zr.zd,values:=Zr.zd }:GCase)).bind fun d18 =>
 (some d18).bind fun d21 =>
 some (d21,[],1)
 else
 (cloneOpsD fu x1.ops).bind fun r25 =>
 (some ({ begun:=true,fixed:=Zr.zd,ops:=r25,told:=Zr.zd,known:=Zr.zd,deps:=Zr.zd,has:=Zr.zd,values:=Zr.zd }:GCase)).bind fun d27 =>
 (some d27).bind fun d32 =>
 (againD fu d32 x1.id).bind fun r40 =>
 (some d32).bind fun d44 =>
 some (d44,r40,0))
def postBegin_j2 (fu:Nat) (x1:GTxn) (c50:Bool):Option (GCase × (List GFrame) × Int) :=
 (bif c50 then
 (some ({ begun:=Zr.zd,fixed:=Zr.zd,ops:=Zr.zd,told:=Zr.zd,known:=Zr.zd,deps:=Zr.zd,has:=Zr.zd,values:=Zr.zd }:GCase)).bind fun d54 =>
 (some d54).bind fun d57 =>
 some (d57,[],2)
 else
 postBegin_j1 fu x1 (Zr.zd:GCase))
def postBeginD (fu:Nat) (x1:GTxn):Option (GCase × (List GFrame) × Int) :=
 (bif decide (x1.id<0) then
 postBegin_j2 fu x1 true
 else
 postBegin_j2 fu x1 (decide (x1.id≥32)))
set_option maxRecDepth 100000 in
set_option maxHeartbeats 4000000 in
theorem postBegin_ok {M:Mm} {w:World} {cx1:List Value} {x1:GTxn} {fu:Nat} {r:GCase × (List GFrame) × Int} (hA:Agree M w) (hcx1:rep M cx1 x1) (hz:postBeginD fu x1=some r) :
    Calls Try.prog 65 #[.agg cx1.toArray] w (Gives M w (fun M' u => ∃ c0 v1,u = .tuple #[.agg c0.toArray,v1,.int .i64 r.2.2]∧rep M' c0 r.1∧repL M' v1 r.2.1)):=by
 refine Zh Try.func65 rfl 29 rfl rfl (by kernel_rfl) fun T hT => ?_
 have hT_0:T 0 = .agg cx1.toArray:=hT 0
 clear hT
 have hE:=Qg w.heap.size noX M
 have hS:St w noX M [] w:=Zv hA
 rw [postBeginD] at hz
 refine Qh <|Qi ?_
 refine Qu (Yo (v := .agg cx1.toArray) (cs:=cx1) hT_0 rfl hS ?_)
 intro b3 w2 hb3 hS
 refine Qu (Zf tz49 hS ?_)
 intro b5 w4 hb5 hS
 have zb5:rep M (Zr.zc GCase) (Zr.zd:GCase):=Zr.zr
 refine Q2 2 rfl ?_
 refine Qf (Qa ?_)
 refine Qz (fun T' w' => ∃ M7 cs9 d10,Mm.ext w.heap.size noX M M7∧St w noX M7 [.box b5 cs9 49,.box b3 cx1 115] w'∧rep M7 cs9 d10∧T' 1 = .pointer (some ⟨b3,0,none⟩)∧T' 2 = .pointer (some ⟨b5,0,none⟩)∧postBegin_j1 fu x1 d10=some r) ?_ ?_
 have hF46:=Qg w.heap.size noX M
 refine Qz (fun T' w' => ∃ M48 c50,Mm.ext w.heap.size noX M M48∧St w noX M48 [.box b5 (Zr.zc GCase) 49,.box b3 cx1 115] w'∧T' 1 = .pointer (some ⟨b3,0,none⟩)∧T' 2 = .pointer (some ⟨b5,0,none⟩)∧T' 13 = .bool c50∧postBegin_j2 fu x1 c50=some r) ?_ ?_
 have hF58:=Qg w.heap.size noX M
 refine Qi <|Qd (Qp fa115_0 rfl) <|Qd (Ql (.int .i64 x1.id) Z5 rfl (hS.bvB 1 rfl) (GTxn.p0 (rr hcx1))) <|Qd (Zq rfl rfl) <|Qd (Qe (.bool (decide (x1.id<0))) rfl) ?_
 rcases ic hz with ⟨hc59,hz⟩ | ⟨hc59,hz⟩<;>rw [hc59]
 refine Q2 4 rfl ?_
 refine Qf (Qa ?_)
 exact ⟨M,true,hF58,hS,rfl,rfl,rfl,hz⟩
 refine Qk rfl rfl (Qp fa115_0 rfl) <|Qk rfl rfl (Ql (.int .i64 x1.id) Z5 rfl (hS.bvB 1 rfl) (GTxn.p0 (rr hcx1))) <|Qk rfl rfl (Va rfl rfl) <|Qd (Ze (.bool (decide (x1.id≥32))) rfl rfl) ?_
 refine Qf (Qa ?_)
 exact ⟨M,(decide (x1.id≥32)),hF58,hS,rfl,rfl,rfl,hz⟩
 rintro T49 w47 ⟨M48,c50,hx51,hS,hT49_1,hT49_2,hT49_13,hz⟩
 replace zb5:=Rep.mono hx51.1 zb5
 replace hE:=Qc hE hx51
 replace hF46:=Qc hF46 hx51
 rw [postBegin_j2] at hz
 refine Qr hT49_13 (fun hc52 => ?_) (fun hc52 => ?_)
 replace hz:=Qn hz hc52
 refine Qh <|Qi ?_
 obtain ⟨d54,hd53,hz⟩:=Qb hz
 obtain ⟨cs53,hf53,ha53⟩ : ∃ cs,fillZ (([(0,1),(1,1),(2,1),(3,6),(9,6),(15,1),(16,4),(20,4)]:List (Nat × Nat))[·]?) (Zr.zc GCase) []=some cs∧rep M48 cs d54:=⟨_,Z8,Z9 (x:=({ begun:=Zr.zd,fixed:=Zr.zd,ops:=Zr.zd,told:=Zr.zd,known:=Zr.zd,deps:=Zr.zd,has:=Zr.zd,values:=Zr.zd }:GCase)) (Zr.zr:rep M48 (Zr.zc GCase) (Zr.zd:GCase)) hd53⟩
 refine Qd (Zx [] tb49 Vf hf53) ?_
 obtain ⟨d57,hd56,hz⟩:=Qb hz
 refine Qu (Q8 0 24 hS rfl zb5 hT49_2 rfl ha53 rfl rfl (Lf (rr zb5) ha53) hd56 ?_)
 intro cs56 w55 hb56 ha56 hs56 hS
 refine Q2 2 rfl ?_
 refine Qf (Qa ?_)
 cases hz
 exact Q4 (Qs (V9 (j:=0) rfl hT49_2 rfl rfl (by rw [Rep.len hb56];exact Vb) hS rfl (Zj (Qm (Qm hS)) hE ⟨_,_,rfl,hb56,(Z3 _)⟩)))
 replace hz:=Qo hz hc52
 refine Qv (Qa ?_)
 exact ⟨M48,(Zr.zc GCase),(Zr.zd:GCase),hF46,hS,zb5,hT49_1,hT49_2,hz⟩
 rintro T8 w6 ⟨M7,cs9,d10,hx11,hS,hb9,hT8_1,hT8_2,hz⟩
 replace hcx1:=Rep.mono hx11.1 hcx1
 replace hE:=Qc hE hx11
 rw [postBegin_j1] at hz
 refine Qh <|Qh <|Qi <|Qd (Qp fa115_1 hT8_1) ?_
 obtain ⟨v12,ev12,hv12⟩:=(GTxn.p1 (rr hcx1))
 refine Qd (Ql v12 Vn rfl (hS.bvB 1 rfl) ev12) ?_
 obtain ⟨r15,hr14,hz⟩:=Qb hz
 replace hr14:=Option.some.inj hr14
 refine Qu (Z4 (vs:=[v12]) (v := .bool r15) cb60 (Zu rfl) hS (hr14 ▸ (c_goodOps hS.agree hv12)) ?_)
 intro w13 hS
 refine Qd (Ye rfl) ?_
 refine Qf (Qa ?_)
 refine Qr rfl (fun hc16 => ?_) (fun hc16 => ?_)
 replace hz:=Qn hz hc16
 refine Qh <|Qi ?_
 obtain ⟨d18,hd17,hz⟩:=Qb hz
 obtain ⟨cs17,hf17,ha17⟩ : ∃ cs,fillZ (([(0,1),(1,1),(2,1),(3,6),(9,6),(15,1),(16,4),(20,4)]:List (Nat × Nat))[·]?) (Zr.zc GCase) []=some cs∧rep M7 cs d18:=⟨_,Z8,Z9 (x:=({ begun:=Zr.zd,fixed:=Zr.zd,ops:=Zr.zd,told:=Zr.zd,known:=Zr.zd,deps:=Zr.zd,has:=Zr.zd,values:=Zr.zd }:GCase)) (Zr.zr:rep M7 (Zr.zc GCase) (Zr.zd:GCase)) hd17⟩
 refine Qd (Zx [] tb49 Vf hf17) ?_
 obtain ⟨d21,hd20,hz⟩:=Qb hz
 refine Qu (Q8 0 24 hS rfl hb9 hT8_2 rfl ha17 rfl rfl (Lf (rr hb9) ha17) hd20 ?_)
 intro cs20 w19 hb20 ha20 hs20 hS
 refine Q2 2 rfl ?_
 refine Qf (Qa ?_)
 cases hz
 exact Q4 (Qs (V9 (j:=0) rfl hT8_2 rfl rfl (by rw [Rep.len hb20];exact Vb) hS rfl (Zj (Qm (Qm hS)) hE ⟨_,_,rfl,hb20,(Z3 _)⟩)))
 replace hz:=Qo hz hc16
 refine Qv (Qa ?_)
 refine Qh <|Qi <|Qd (Qp fa115_1 hT8_1) ?_
 obtain ⟨v22,ev22,hv22⟩:=(GTxn.p1 (rr hcx1))
 refine Qd (Ql v22 Vn rfl (hS.bvB 1 rfl) ev22) ?_
 obtain ⟨r25,hr24,hz⟩:=Qb hz
 refine Qu (Y1 (vs:=[v22]) (rv:=(fun M' u=>repL M' u r25)) cb53 (Zu rfl) hS (cloneOps_ok hS.agree hv22 hr24) ?_)
 intro u24 M24 w23 hx24 hu24 hS
 have f24:repL M24 u24 r25:=hu24
 replace hcx1:=Rep.mono hx24.1 hcx1
 have k26_0:=GCase.w0 (Zr.zr:rep M24 (Zr.zc GCase) (Zr.zd:GCase)) (rb true:rep M24 _ _)
 have k26_1:=GCase.w2 k26_0 (Q1 f24)
 obtain ⟨d27,hd26,hz⟩:=Qb hz
 obtain ⟨cs26,hf26,ha26⟩ : ∃ cs,fillZ (([(0,1),(1,1),(2,1),(3,6),(9,6),(15,1),(16,4),(20,4)]:List (Nat × Nat))[·]?) (Zr.zc GCase) [(0,.bool true),(2,u24)]=some cs∧rep M24 cs d27:=⟨_,(Zb (Zr.zr:rep M24 (Zr.zc GCase) (Zr.zd:GCase)) rfl rfl (Rep.len (rb true:rep M24 _ _)) (by decide) (Zb k26_0 rfl (Q9 f24) (Rep.len (Q1 f24)) (by decide) Z8)),Z9 (x:=({ begun:=true,fixed:=Zr.zd,ops:=r25,told:=Zr.zd,known:=Zr.zd,deps:=Zr.zd,has:=Zr.zd,values:=Zr.zd }:GCase)) k26_1 hd26⟩
 refine Qd (Zx [(0,.bool true),(2,u24)] tb49 (Ys rfl (Ys rfl Vf)) hf26) ?_
 refine Qu (Zf tz49 hS ?_)
 intro b29 w28 hb29 hS
 have zb29:rep M24 (Zr.zc GCase) (Zr.zd:GCase):=Zr.zr
 obtain ⟨d32,hd31,hz⟩:=Qb hz
 refine Qu (Q8 0 24 hS rfl zb29 rfl rfl ha26 rfl rfl (Lf (rr zb29) ha26) hd31 ?_)
 intro cs31 w30 hb31 ha31 hs31 hS
 refine Qf (Qa ?_)
 refine Qh <|Yt [.box b29 cs31 49,.box b3 cx1 115] [] Z6 hS fun w33 hS hG34 hR35 => ?_
 have ha36:=(rr hb31)
 refine Y6 0 rfl (Zg Vb rfl (Ym 0 rfl) (Rep.len ha36)) hR35 ?_
 have ha37:=(rr hb31)
 refine Y6 1 rfl (Zg Vb rfl (Ym 0 rfl) (Rep.len ha37)) hR35 <|wy 2 rfl (Qp fa115_0 hT8_1) (fun _=>hR35) <|Y6 3 rfl (Ql (.int .i64 x1.id) Z5 rfl (Ym 1 rfl) (GTxn.p0 (rr hcx1))) hR35 ?_
 obtain ⟨r40,hr39,hz⟩:=Qb hz
 refine w1 4 rfl (Y1 (vs:=[.agg (sl cs31 (0) 24).toArray,.int .i64 x1.id]) (rv:=(fun M' u=>repL M' u r40)) cb50 (Ya rfl rfl) hS (again_ok hS.agree ha37 hr39) ?_)
 intro u39 M39 w38 hx39 hu39 hS
 have f39:repL M39 u39 r40:=hu39
 replace hb9:=Rep.mono (hx24.1.trans hx39.1) hb9
 replace ha36:=Rep.mono hx39.1 ha36
 replace hE:=Qc hE (hx24.trans hx39)
 replace hG34:=Qc hG34 hx39
 refine Yr hS hG34 fun hR41 => ?_
 obtain ⟨d44,hd43,hz⟩:=Qb hz
 refine w1 5 rfl (Q8 1 24 hS rfl hb9 hT8_2 rfl ha36 rfl rfl (Lf (rr hb9) ha36) hd43 ?_)
 intro cs43 w42 hb43 ha43 hs43 hS
 refine Yr hS hG34 fun hR45=>wy 6 rfl (Qj (u39) rfl) (fun _=>hR45) <|wy 7 rfl (Qj (.int .i64 0) rfl) (fun _=>hR45) ?_
 refine wd (Qa ?_)
 cases hz
 exact Q4 (V9 (j:=1) rfl hT8_2 rfl rfl (by rw [Rep.len hb43];exact Vb) hS rfl (Zj (Qm (Qm (Qm hS))) hE ⟨_,_,rfl,hb43,f39⟩))
def postResult_l1 (fu:Nat) (x1:GCase):Nat→Int→Option ((List Int) × Bool)
 | 0,_=>none
 | n+1,y11 =>
 (bif decide (y11<2) then
 (wholeD fu x1 y11).bind fun r20 =>
 (bif !r20 then
 some ([],false)
 else
 (postResult_l1 fu x1 n) (IntKind.wrap .i64 (y11+1)))
 else
 (cutL x1.values.toList none (some (x1.ops.length:Int))).bind fun l25 =>
 (cloneIntsD fu l25).bind fun r28 =>
 some (r28,true))
def postResult_j1 (fu:Nat) (x1:GCase):Option ((List Int) × Bool) :=
 postResult_l1 fu x1 fu 0
def postResult_j2 (fu:Nat) (x1:GCase) (c34:Bool):Option ((List Int) × Bool) :=
 (bif c34 then
 some ([],false)
 else
 postResult_j1 fu x1)
def postResultD (fu:Nat) (x1:GCase):Option ((List Int) × Bool) :=
 (bif !x1.begun then
 postResult_j2 fu x1 true
 else
 (postGoodD fu x1).bind fun r42 =>
 postResult_j2 fu x1 (!r42))
set_option maxRecDepth 100000 in
set_option maxHeartbeats 4000000 in
theorem postResult_ok {M:Mm} {w:World} {cx1:List Value} {x1:GCase} {fu:Nat} {r:(List Int) × Bool} (hA:Agree M w) (hcx1:rep M cx1 x1) (hz:postResultD fu x1=some r) :
    Calls Try.prog 28 #[.agg cx1.toArray] w (Gives M w (fun M' u => ∃ v0,u = .tuple #[v0,.bool r.2]∧repL M' v0 r.1)):=by
 refine Zh Try.func28 rfl 27 rfl rfl (by kernel_rfl) fun T hT => ?_
 have hT_0:T 0 = .agg cx1.toArray:=hT 0
 clear hT
 have hE:=Qg w.heap.size noX M
 have hS:St w noX M [] w:=Zv hA
 rw [postResultD] at hz
 refine Qh <|Qi ?_
 refine Qu (Yo (v := .agg cx1.toArray) (cs:=cx1) hT_0 rfl hS ?_)
 intro b3 w2 hb3 hS
 refine Q2 2 rfl ?_
 refine Qf (Qa ?_)
 refine Qz (fun T' w' => ∃ M5,Mm.ext w.heap.size noX M M5∧St w noX M5 [.box b3 cx1 49] w'∧T' 1 = .pointer (some ⟨b3,0,none⟩)∧postResult_j1 fu x1=some r) ?_ ?_
 have hF30:=Qg w.heap.size noX M
 refine Qz (fun T' w' => ∃ M32 c34,Mm.ext w.heap.size noX M M32∧St w noX M32 [.box b3 cx1 49] w'∧T' 1 = .pointer (some ⟨b3,0,none⟩)∧T' 12 = .bool c34∧postResult_j2 fu x1 c34=some r) ?_ ?_
 have hF37:=Qg w.heap.size noX M
 refine Qi <|Qd (Qp fa49_0 rfl) <|Qd (Ql (.bool x1.begun) Jk rfl (hS.bvB 0 rfl) (GCase.p0 (rr hcx1))) <|Qd (Ye rfl) <|Qd (Qe (.bool (!x1.begun)) rfl) ?_
 rcases ic hz with ⟨hc38,hz⟩ | ⟨hc38,hz⟩<;>rw [hc38]
 refine Q2 4 rfl ?_
 refine Qf (Qa ?_)
 exact ⟨M,true,hF37,hS,rfl,rfl,hz⟩
 have ha39:=(rr hcx1)
 refine Qk rfl rfl (Zg Vb rfl (hS.bvB 0 rfl) (Rep.len ha39)) ?_
 obtain ⟨r42,hr41,hz⟩:=Qb hz
 refine Km rfl rfl (Z4 (vs:=[.agg (sl cx1 (0) 24).toArray]) (v := .bool r42) cb39 (Zu rfl) hS (postGood_ok hS.agree ha39 hr41) ?_)
 intro w40 hS
 refine Qk rfl rfl (Ye rfl) <|Qd (Ze (.bool (!r42)) rfl rfl) ?_
 refine Qf (Qa ?_)
 exact ⟨M,(!r42),hF37,hS,rfl,rfl,hz⟩
 rintro T33 w31 ⟨M32,c34,hx35,hS,hT33_1,hT33_12,hz⟩
 replace hE:=Qc hE hx35
 replace hF30:=Qc hF30 hx35
 rw [postResult_j2] at hz
 refine Qr hT33_12 (fun hc36 => ?_) (fun hc36 => ?_)
 replace hz:=Qn hz hc36
 refine Qh <|Qi <|Q2 2 rfl ?_
 refine Qf (Qa ?_)
 cases hz
 exact Q4 (Qs (R_t2 rfl rfl rfl (Zj (Qm hS) hE ⟨_,rfl,(Z3 _)⟩)))
 replace hz:=Qo hz hc36
 refine Qv (Qa ?_)
 exact ⟨M32,hF30,hS,hT33_1,hz⟩
 rintro T6 w4 ⟨M5,hx7,hS,hT6_1,hz⟩
 replace hcx1:=Rep.mono hx7.1 hcx1
 replace hE:=Qc hE hx7
 rw [postResult_j1] at hz
 refine Qh <|Qh <|Qi <|Qd (Qe (.int .i64 0) rfl) ?_
 refine Qf (Qa ?_)
 refine Qy ?_
 refine Zy (fun k13 T' w' => ∃ M9 y11,Mm.ext w.heap.size noX M5 M9∧St w noX M9 [.box b3 cx1 49] w'∧T' 1 = .pointer (some ⟨b3,0,none⟩)∧T' 13 = .int .i64 y11∧postResult_l1 fu x1 k13 y11=some r) fu ?_ ?_ ?_
 exact ⟨M5,(0:Int),(Qg _ _ _),hS,hT6_1,rfl,hz⟩
 rintro T' w' ⟨_,_,_,_,_,_,hz⟩
 rw [postResult_l1] at hz
 cases hz
 intro k13
 rintro T10 w8 ⟨M9,y11,hx15,hS,hT10_1,hT10_13,hz⟩
 replace hcx1:=Rep.mono hx15.1 hcx1
 replace hE:=Qc hE hx15
 have hF14:=hx15
 rw [postResult_l1] at hz
 obtain ⟨rec12,hrec12⟩ : ∃ f,f=postResult_l1 fu x1 k13:=⟨_,rfl⟩
 rw [← hrec12] at hz
 refine Qh <|Qi <|Qd (Zq hT10_13 rfl) ?_
 refine Qf (Qa ?_)
 refine Qh ?_
 refine Qr rfl (fun hc16 => ?_) (fun hc16 => ?_)
 replace hz:=Qn hz hc16
 refine Qv (Qa ?_)
 refine Qh <|Qy <|Qh <|Qi <|Qd (Qe (.int .i64 y11) hT10_13) <|Qd (Qj (.int .i64 y11) rfl) ?_
 refine Qf (Qa ?_)
 refine Qh <|Qi ?_
 have ha17:=(rr hcx1)
 refine Qd (Zg Vb hT10_1 (hS.bvB 0 rfl) (Rep.len ha17)) <|Qd (Qe (.int .i64 y11) rfl) ?_
 obtain ⟨r20,hr19,hz⟩:=Qb hz
 refine Qu (Z4 (vs:=[.agg (sl cx1 (0) 24).toArray,.int .i64 y11]) (v := .bool r20) cb58 (Ya rfl rfl) hS (whole_ok hS.agree ha17 hr19) ?_)
 intro w18 hS
 refine Qd (Ye rfl) ?_
 refine Qf (Qa ?_)
 refine Qr rfl (fun hc21 => ?_) (fun hc21 => ?_)
 replace hz:=Qn hz hc21
 refine Qh <|Qi <|Q2 2 rfl ?_
 refine Qf (Qa ?_)
 cases hz
 exact Q4 (Zi (Qs (Qs (Zi (Qs (R_t2 rfl rfl rfl (Zj (Qm hS) hE ⟨_,rfl,(Z3 _)⟩)))))))
 replace hz:=Qo hz hc21
 refine Qv (Q7 ?_)
 refine (Qa ?_)
 refine Qi <|Qd (Zz hT10_13 rfl) <|Qd (Qe (.int .i64 (IntKind.wrap .i64 (y11+1))) rfl) ?_
 refine Qf (Qa ?_)
 exact ⟨M9,(IntKind.wrap .i64 (y11+1)),hF14,hS,hT10_1,rfl,(by rw [← hrec12];exact hz)⟩
 replace hz:=Qo hz hc16
 refine Zs <|Q0 <|Q0 <|Zt ?_
 refine (Qa ?_)
 refine Qh <|Qi <|Qd (Qp fa49_7 hT10_1) <|Qd (Qp Vy hT10_1) ?_
 obtain ⟨v22,ev22,hv22⟩:=(Yw (rr hcx1))
 refine Qd (Ql v22 Vn rfl (hS.bvB 0 rfl) ev22) ?_
 obtain ⟨a23,c23,hv23,_⟩:=Q3 hv22
 refine Qd (Zk Z7 (Vw hv23 rfl)) ?_
 have ha24:=(GCase.p7 (rr hcx1))
 have hn24:(cx1).length=24:=Rep.len hcx1
 obtain ⟨M24,hM24,hx24,hS⟩:=St.freeze 0 hS rfl
 replace ha24:=Rep.mono hx24.1 ha24
 replace hE:=Qc hE hx24
 have hs24:repL M24 (.slice (some ⟨b3,0+20,none⟩) 4 4) x1.values.toList:=repL_arr hM24 (show _+4*1≤_ by omega) ha24 (by decide)
 obtain ⟨l25,hx24,hz⟩:=Qb hz
 obtain ⟨⟨pp24,qq24⟩,hc24,hx24⟩:=Option.map_eq_some_iff.1 hx24
 have h24l:repL _ (cutV (.slice (some ⟨b3,0+20,none⟩) 4 4) 1 pp24 qq24) l25:=hx24 ▸ repL_cut hs24 hc24
 rw [show x1.values.toList.length=4 from by simp] at hc24
 refine Qd (Y_cutA (l:=none) (h:=(some (x1.ops.length:Int))) ia47 rfl evn (evs rfl) hc24) ?_
 obtain ⟨r28,hr27,hz⟩:=Qb hz
 refine Qu (Zw (vs:=[(cutV (.slice (some ⟨b3,0+20,none⟩) 4 4) 1 pp24 qq24)]) (L:=[]) (R:=[]) (rv:=(fun M' u L' => ∃ v0,u=v0∧L'=[.row v0 3 1]∧repL M' v0 r28)) cb44 (Zu rfl) hS (hS.sel [] (by decide) rfl) (fun hS=>cloneInts_ok hS.agree h24l hr27) ?_)
 rintro u27 M27 w26 L27 hx27 ⟨v0_27,rfl,hL27,f27_0⟩ hS
 replace hS:=hS _ hL27
 replace hE:=Qc hE hx27
 refine Q2 2 rfl ?_
 refine Qf (Qa ?_)
 cases hz
 exact Q4 (R_t2 rfl rfl rfl (Zj (Qm hS) hE ⟨_,rfl,f27_0⟩))
end Go.Proofs.Yteilffoclpgijaa
namespace Go.Proofs.Yteilffoclpgijaa
open Go.RowKit
open Rep (rep)
set_option linter.unusedVariables false
abbrev Jp := @R_c
abbrev Jm := @ia58
abbrev Vj := @skr_shape
abbrev Jc := @GGraph.p1
abbrev Zm := @skr.mono
abbrev Q6 := @Y_nil
abbrev Jd := @fa104_1
abbrev V1 := @ia56
abbrev Je := @fa104_2
abbrev Zn := @idxV_some
abbrev Vs := @GSearch.p1
abbrev Y7 := @GSearch.p2
abbrev Ky := @fa104_4
abbrev Ki := @hole_rep
abbrev Kz := @GSearch.p3
abbrev Yn := @WQ_y
abbrev Kj := @GSearch.p5
abbrev Yx := @fillZ_apart
abbrev Jj := @args3
def reach_j2 (y68:Int) (rec69:(Vector Bool 32)→(List Int)→Int→Option (Vector Bool 32)) (d78:Vector Bool 32) (l81:List Int):Option (Vector Bool 32) :=
 rec69 d78 l81 (IntKind.wrap .i64 (y68+1))
def reach_j3 (d63:Vector Bool 32) (l66:List Int) (y68:Int) (rec69:(Vector Bool 32)→(List Int)→Int→Option (Vector Bool 32)) (x86:Int) (c90:Bool):Option (Vector Bool 32) :=
 (bif c90 then
 (inR x86 32).bind fun _ =>
 (idxV d63 x86).bind fun x97 =>
 (setV d63 x86 true).bind fun a99 =>
 (some a99).bind fun d101 =>
 (app l66 ([x86]:List Int)).bind fun l106 =>
 reach_j2 y68 rec69 d101 l106
 else
 reach_j2 y68 rec69 d63 l66)
def reach_l2 (rec36:(Vector Bool 32)→(List Int)→Option (Vector Bool 32)) (x55:List Int):Nat→(Vector Bool 32)→(List Int)→Int→Option (Vector Bool 32)
 | 0,_,_,_=>none
 | n+1,d63,l66,y68 =>
 (bif decide (y68<(x55.length:Int)) then
 (idx x55 y68).bind fun x86 =>
 (bif decide (x86≥0) then
 (bif decide (x86<32) then
 (inR x86 32).bind fun _ =>
 (idxV d63 x86).bind fun x112 =>
 reach_j3 d63 l66 y68 (reach_l2 rec36 x55 n) x86 (!x112)
 else
 reach_j3 d63 l66 y68 (reach_l2 rec36 x55 n) x86 false)
 else
 reach_j3 d63 l66 y68 (reach_l2 rec36 x55 n) x86 false)
 else
 rec36 d63 l66)
def reach_l1 (fu:Nat) (x1:GGraph):Nat→(Vector Bool 32)→(List Int)→Option (Vector Bool 32)
 | 0,_,_=>none
 | n+1,d31,l34 =>
 (bif decide ((l34.length:Int)>0) then
 (idx l34 (IntKind.wrap .i64 ((l34.length:Int)-1))).bind fun x44 =>
 (cutL l34 none (some (IntKind.wrap .i64 ((l34.length:Int)-1)))).bind fun l47 =>
 (inR x44 32).bind fun _ =>
 (idxV x1.known x44).bind fun x50 =>
 (bif !x50 then
 (reach_l1 fu x1 n) d31 l47
 else
 (inR x44 32).bind fun _ =>
 (idxV x1.deps x44).bind fun x55 =>
 reach_l2 (reach_l1 fu x1 n) x55 fu d31 l47 0)
 else
 (some d31).bind fun d117 =>
 some d117)
def reach_j1 (fu:Nat) (x1:GGraph) (x2:Int) (d13:Vector Bool 32):Option (Vector Bool 32) :=
 (inR x2 32).bind fun _ =>
 (idxV (Zr.zd:Vector Bool 32) x2).bind fun x19 =>
 (setV (Zr.zd:Vector Bool 32) x2 true).bind fun a21 =>
 (some a21).bind fun d23 =>
 reach_l1 fu x1 fu d23 ([x2]:List Int)
def reach_j4 (fu:Nat) (x1:GGraph) (x2:Int) (c122:Bool):Option (Vector Bool 32) :=
 (bif c122 then
 (some (Zr.zd:Vector Bool 32)).bind fun d128 =>
 some d128
 else
 reach_j1 fu x1 x2 (Zr.zd:Vector Bool 32))
def reachD (fu:Nat) (x1:GGraph) (x2:Int):Option (Vector Bool 32) :=
 (bif decide (x2<0) then
 reach_j4 fu x1 x2 true
 else
 reach_j4 fu x1 x2 (decide (x2≥32)))
set_option maxRecDepth 100000 in
set_option maxHeartbeats 4000000 in
theorem reach_ok {M:Mm} {w:World} {cx1:List Value} {x1:GGraph} {x2:Int} {fu:Nat} {r:(Vector Bool 32)} (hA:Agree M w) (hcx1:rep M cx1 x1) (hz:reachD fu x1 x2=some r) :
    Calls Try.prog 76 #[.agg cx1.toArray,.int .i64 x2] w (Gives M w (fun M' u => ∃ cs,u = .agg cs.toArray∧rep M' cs r)):=by
 refine Zh Try.func76 rfl 69 rfl rfl (by kernel_rfl) fun T hT => ?_
 have hT_0:T 0 = .agg cx1.toArray:=hT 0
 have hT_1:T 1 = .int .i64 x2:=hT 1
 clear hT
 have hE:=Qg w.heap.size noX M
 have hS:St w noX M [] w:=Zv hA
 rw [reachD] at hz
 refine Qh <|Qi ?_
 refine Qu (Yo (v := .agg cx1.toArray) (cs:=cx1) hT_0 rfl hS ?_)
 intro b4 w3 hb4 hS
 refine Qu (Zf tz58 hS ?_)
 intro b6 w5 hb6 hS
 have zb6:rep M (Zr.zc (Vector Bool 32)) (Zr.zd:Vector Bool 32):=Zr.zr
 refine Qf (Qa ?_)
 refine Qh <|Qi ?_
 refine Qu (Zf tz58 hS ?_)
 intro b8 w7 hb8 hS
 have zb8:rep M (Zr.zc (Vector Bool 32)) (Zr.zd:Vector Bool 32):=Zr.zr
 refine Qf (Qa ?_)
 refine Qz (fun T' w' => ∃ M10 cs12 d13,Mm.ext w.heap.size noX M M10∧St w noX M10 [.box b8 (Zr.zc (Vector Bool 32)) 58,.box b6 cs12 58,.box b4 cx1 61] w'∧rep M10 cs12 d13∧T' 1 = .int .i64 x2∧T' 2 = .pointer (some ⟨b4,0,none⟩)∧T' 4 = .pointer (some ⟨b6,0,none⟩)∧T' 5 = .pointer (some ⟨b8,0,none⟩)∧reach_j1 fu x1 x2 d13=some r) ?_ ?_
 have hF118:=Qg w.heap.size noX M
 refine Qz (fun T' w' => ∃ M120 c122,Mm.ext w.heap.size noX M M120∧St w noX M120 [.box b8 (Zr.zc (Vector Bool 32)) 58,.box b6 (Zr.zc (Vector Bool 32)) 58,.box b4 cx1 61] w'∧T' 1 = .int .i64 x2∧T' 2 = .pointer (some ⟨b4,0,none⟩)∧T' 4 = .pointer (some ⟨b6,0,none⟩)∧T' 5 = .pointer (some ⟨b8,0,none⟩)∧T' 15 = .bool c122∧reach_j4 fu x1 x2 c122=some r) ?_ ?_
 have hF129:=Qg w.heap.size noX M
 refine Qi <|Qd (Qe (.int .i64 x2) hT_1) <|Qd (Zq rfl rfl) <|Qd (Qe (.bool (decide (x2<0))) rfl) ?_
 rcases ic hz with ⟨hc130,hz⟩ | ⟨hc130,hz⟩<;>rw [hc130]
 refine Q2 3 rfl ?_
 refine Qf (Qa ?_)
 exact ⟨M,true,hF129,hS,hT_1,rfl,rfl,rfl,rfl,hz⟩
 refine Qk rfl rfl (Qe (.int .i64 x2) hT_1) <|Qk rfl rfl (Va rfl rfl) <|Qd (Ze (.bool (decide (x2≥32))) rfl rfl) ?_
 refine Qf (Qa ?_)
 exact ⟨M,(decide (x2≥32)),hF129,hS,hT_1,rfl,rfl,rfl,rfl,hz⟩
 rintro T121 w119 ⟨M120,c122,hx123,hS,hT121_1,hT121_2,hT121_4,hT121_5,hT121_15,hz⟩
 replace zb6:=Rep.mono hx123.1 zb6
 replace zb8:=Rep.mono hx123.1 zb8
 replace hE:=Qc hE hx123
 replace hF118:=Qc hF118 hx123
 rw [reach_j4] at hz
 refine Qr hT121_15 (fun hc124 => ?_) (fun hc124 => ?_)
 replace hz:=Qn hz hc124
 refine Qh <|Qi ?_
 have ha125:=(rr zb8)
 refine Qd (Zg ta58 hT121_5 (hS.bvB 0 rfl) (Rep.len ha125)) ?_
 obtain ⟨d128,hd127,hz⟩:=Qb hz
 refine Qu (Q8 1 32 hS rfl zb6 hT121_4 rfl ha125 rfl rfl (Lf (rr zb6) ha125) hd127 ?_)
 intro cs127 w126 hb127 ha127 hs127 hS
 refine Qf (Qa ?_)
 cases hz
 exact Q4 (Qs (Jp (j:=1) rfl hT121_4 (by rw [Rep.len hb127];exact ta58) hS rfl (Zj (Qm (Qm (Qm hS))) hE ⟨_,rfl,hb127⟩)))
 replace hz:=Qo hz hc124
 refine Qv (Qa ?_)
 exact ⟨M120,(Zr.zc (Vector Bool 32)),(Zr.zd:Vector Bool 32),hF118,hS,zb6,hT121_1,hT121_2,hT121_4,hT121_5,hz⟩
 rintro T11 w9 ⟨M10,cs12,d13,hx14,hS,hb12,hT11_1,hT11_2,hT11_4,hT11_5,hz⟩
 replace hcx1:=Rep.mono hx14.1 hcx1
 replace zb8:=Rep.mono hx14.1 zb8
 replace hE:=Qc hE hx14
 rw [reach_j1] at hz
 refine Qh <|Qi <|Qd (Qe (.int .i64 x2) hT11_1) ?_
 obtain ⟨u15,hx16,hz⟩:=Qb hz
 obtain ⟨hx16a,hx16b⟩:=Qt hx16
 refine Qd (Za Jm hT11_5 rfl hx16a hx16b) ?_
 obtain ⟨x19,hx20,hz⟩:=Qb hz
 obtain ⟨a21,hx22,hz⟩:=Qb hz
 obtain ⟨d23,hd18,hz⟩:=Qb hz
 refine Qu (Q8 0 1 hS rfl zb8 rfl rfl (rb true:rep M10 _ _) rfl rfl (vu (k:=1) rfl rfl (rr zb8) (Lf (vp (k:=1) rfl rfl (rr zb8) hx20) (rb true:rep M10 _ _)) hx22) hd18 ?_)
 intro cs18 w17 hb18 ha18 hs18 hS
 refine Qf (Qa ?_)
 refine Qh <|Qi <|Qd (Qe (.int .i64 x2) hT11_1) ?_
 refine Qu (O_bsliceS (α := Int) (l:=([x2]:List Int)) [.int .i64 x2] Jh (Ys rfl Vf) rfl rfl (by decide) (by decide) (by decide) hS (K5 (ri x2:rep M10 _ _) Ji) ?_)
 intro v25 xs25 w24 hk25 hS
 refine Qd (Qj (v25) rfl) ?_
 refine Qf (Qa ?_)
 refine Qh <|Qy ?_
 refine Zy (fun k37 T' w' => ∃ M28 cs30 d31 v32 xs33 l34,Mm.ext w.heap.size noX M10 M28∧St w noX M28 [.stk v32 3 1 xs33,.box b8 cs30 58,.box b6 cs12 58,.box b4 cx1 61] w'∧rep M28 cs30 d31∧skr M28 v32 xs33 l34∧T' 2 = .pointer (some ⟨b4,0,none⟩)∧T' 4 = .pointer (some ⟨b6,0,none⟩)∧T' 5 = .pointer (some ⟨b8,0,none⟩)∧T' 6=v32∧reach_l1 fu x1 k37 d31 l34=some r) fu ?_ ?_ ?_
 exact ⟨M10,cs18,d23,v25,xs25,([x2]:List Int),(Qg _ _ _),hS,hb18,hk25,hT11_2,hT11_4,hT11_5,rfl,hz⟩
 rintro T' w' ⟨_,_,_,_,_,_,_,_,_,_,_,_,_,_,hz⟩
 rw [reach_l1] at hz
 cases hz
 intro k37
 rintro T29 w27 ⟨M28,cs30,d31,v32,xs33,l34,hx39,hS,hb30,hk35,hT29_2,hT29_4,hT29_5,hT29_6,hz⟩
 replace hcx1:=Rep.mono hx39.1 hcx1
 replace hb12:=Rep.mono hx39.1 hb12
 replace hE:=Qc hE hx39
 have hF38:=hx39
 rw [reach_l1] at hz
 obtain ⟨rec36,hrec36⟩ : ∃ f,f=reach_l1 fu x1 k37:=⟨_,rfl⟩
 rw [← hrec36] at hz
 refine Qh <|Qh <|Qi <|Qd (Qe (v32) hT29_6) ?_
 obtain ⟨a40,c40,hv40,_⟩:=Vj hk35
 refine Qd (Zk Qq (Vw hv40 rfl)) <|Qd (Yu rfl rfl) ?_
 refine Qf (Qa ?_)
 refine Qr rfl (fun hc41 => ?_) (fun hc41 => ?_)
 replace hz:=Qn hz hc41
 refine Qv (Qa ?_)
 refine Qy <|Qh <|Qi <|Qd (Qe (v32) hT29_6) <|Qd (Qe (v32) hT29_6) ?_
 obtain ⟨a42,c42,hv42,_⟩:=Vj hk35
 refine Qd (Zk Qq (Vw hv42 rfl)) <|Qd (Kf rfl rfl) ?_
 obtain ⟨x44,hx43,hz⟩:=Qb hz
 obtain ⟨b43,o43,c43,hv43,hi43,hj43,hM43,hr43⟩:=skv_at (hS.skv (j:=0) rfl hk35) hx43
 replace hr43:rep _ (sl xs33 (o43+Int.toNat (IntKind.wrap .i64 ((l34.length:Int)-1))*1) 1) x44:=hr43
 refine Qd (Yq V6 rfl hv43 rfl hi43 hj43) <|Qd (Ql (.int .i64 x44) Z5 rfl (hS.bvK (j:=0) rfl hM43) hr43) <|Qd (Qj (.int .i64 x44) rfl) ?_
 refine Qf (Qa ?_)
 refine Qh <|Qi <|Qd (Qe (v32) hT29_6) <|Qd (Qe (v32) hT29_6) ?_
 obtain ⟨a45,c45,hv45,_⟩:=Vj hk35
 refine Qd (Zk Qq (Vw hv45 rfl)) <|Qd (Kf rfl rfl) ?_
 obtain ⟨l47,hx46,hz⟩:=Qb hz
 obtain ⟨⟨pp46,qq46⟩,hc46,hx46⟩:=Option.map_eq_some_iff.1 hx46
 obtain ⟨a46,c46,hv46,hn46⟩:=Vj hk35
 refine Qd (Y_cutL (l:=none) (h:=(some (IntKind.wrap .i64 ((l34.length:Int)-1)))) V6 rfl hv46 evn (evs rfl) hc46 hn46) ?_
 obtain ⟨hk46,hS⟩:=hS.pop (j:=0) rfl hk35 hc46
 rw [show (List.drop pp46 (List.take qq46 l34))=l47 from hx46] at hk46
 replace hk46:skr M28 (cutV v32 1 pp46 qq46) (List.take (qq46*1) xs33) l47:=hk46
 refine Qd (Qj ((cutV v32 1 pp46 qq46)) rfl) ?_
 refine Qf (Qa ?_)
 refine Qh <|Qh <|Qi <|Qd (Qe (.int .i64 x44) rfl) <|Qd (Qp fa61_0 hT29_2) ?_
 obtain ⟨u48,hx49,hz⟩:=Qb hz
 obtain ⟨hx49a,hx49b⟩:=Qt hx49
 refine Qd (Za Jm rfl rfl hx49a hx49b) ?_
 obtain ⟨x50,hx51,hz⟩:=Qb hz
 refine Qd (Ql (.bool x50) Jk rfl (hS.bvB 3 rfl) (vp (k:=1) rfl rfl (GGraph.p0 (rr hcx1)) hx51)) <|Qd (Ye rfl) ?_
 refine Qf (Qa ?_)
 refine Qr rfl (fun hc52 => ?_) (fun hc52 => ?_)
 replace hz:=Qn hz hc52
 refine Zs <|Q0 <|Zt ?_
 refine (Qa ?_)
 exact ⟨M28,cs30,d31,(cutV v32 1 pp46 qq46),(List.take (qq46*1) xs33),l47,hF38,hS,hb30,hk46,hT29_2,hT29_4,hT29_5,rfl,(by rw [← hrec36];exact hz)⟩
 replace hz:=Qo hz hc52
 refine Qv (Qa ?_)
 refine Qh <|Qi <|Qd (Qe (.int .i64 x44) rfl) <|Qd (Qp fa61_1 hT29_2) ?_
 obtain ⟨u53,hx54,hz⟩:=Qb hz
 obtain ⟨hx54a,hx54b⟩:=Qt hx54
 refine Qd (Za ia59 rfl rfl hx54a hx54b) ?_
 obtain ⟨x55,hx56,hz⟩:=Qb hz
 obtain ⟨v57,ev57,hv57⟩:=(vp (k:=1) rfl rfl (Jc (rr hcx1)) hx56)
 refine Qd (Ql v57 Z2 rfl (hS.bvB 3 rfl) ev57) ?_
 obtain ⟨a58,c58,hv58,_⟩:=Q3 hv57
 refine Qd (Zk Qq (Vw hv58 rfl)) <|Qd (Qe (.int .i64 0) rfl) ?_
 refine Qf (Qa ?_)
 refine Qy ?_
 refine Zy (fun k70 T' w' => ∃ M60 cs62 d63 v64 xs65 l66 y68,Mm.ext w.heap.size noX M28 M60∧St w noX M60 [.stk v64 3 1 xs65,.box b8 cs62 58,.box b6 cs12 58,.box b4 cx1 61] w'∧rep M60 cs62 d63∧skr M60 v64 xs65 l66∧T' 2 = .pointer (some ⟨b4,0,none⟩)∧T' 4 = .pointer (some ⟨b6,0,none⟩)∧T' 5 = .pointer (some ⟨b8,0,none⟩)∧T' 6=v64∧T' 43=v57∧T' 44 = .int .i64 (x55.length:Int)∧T' 45 = .int .i64 y68∧reach_l2 rec36 x55 k70 d63 l66 y68=some r) fu ?_ ?_ ?_
 exact ⟨M28,cs30,d31,(cutV v32 1 pp46 qq46),(List.take (qq46*1) xs33),l47,(0:Int),(Qg _ _ _),hS,hb30,hk46,hT29_2,hT29_4,hT29_5,rfl,rfl,rfl,rfl,hz⟩
 rintro T' w' ⟨_,_,_,_,_,_,_,_,_,_,_,_,_,_,_,_,_,_,hz⟩
 rw [reach_l2] at hz
 cases hz
 intro k70
 rintro T61 w59 ⟨M60,cs62,d63,v64,xs65,l66,y68,hx72,hS,hb62,hk67,hT61_2,hT61_4,hT61_5,hT61_6,hT61_43,hT61_44,hT61_45,hz⟩
 replace hv57:=Qw hx72.1 hv57
 replace hF38:=Qc hF38 hx72
 have hF71:=hx72
 rw [reach_l2] at hz
 obtain ⟨rec69,hrec69⟩ : ∃ f,f=reach_l2 rec36 x55 k70:=⟨_,rfl⟩
 rw [← hrec69] at hz
 refine Qh <|Qi <|Qd (Zq hT61_45 hT61_44) ?_
 refine Qf (Qa ?_)
 refine Qh ?_
 refine Qr rfl (fun hc73 => ?_) (fun hc73 => ?_)
 replace hz:=Qn hz hc73
 refine Qv (Qa ?_)
 refine Qz (fun T' w' => ∃ M75 cs77 d78 v79 xs80 l81,Mm.ext w.heap.size noX M60 M75∧St w noX M75 [.stk v79 3 1 xs80,.box b8 cs77 58,.box b6 cs12 58,.box b4 cx1 61] w'∧rep M75 cs77 d78∧skr M75 v79 xs80 l81∧T' 2 = .pointer (some ⟨b4,0,none⟩)∧T' 4 = .pointer (some ⟨b6,0,none⟩)∧T' 5 = .pointer (some ⟨b8,0,none⟩)∧T' 6=v79∧T' 43=v57∧T' 44 = .int .i64 (x55.length:Int)∧T' 45 = .int .i64 y68∧reach_j2 y68 rec69 d78 l81=some r) ?_ ?_
 have hF84:=Qg w.heap.size noX M60
 refine Qy <|Qh <|Qi ?_
 obtain ⟨x86,hx85,hz⟩:=Qb hz
 obtain ⟨b85,o85,c85,p85,hv85,hi85,hj85,hM85,hr85⟩:=Yd hv57 hx85
 replace hr85:rep _ (sl p85 (o85+Int.toNat y68*1) 1) x86:=hr85
 refine Qd (Yq V6 hT61_43 hv85 hT61_45 hi85 hj85) <|Qd (Ql (.int .i64 x86) Z5 rfl (hS.bvM hM85) hr85) <|Qd (Qj (.int .i64 x86) rfl) ?_
 refine Qf (Qa ?_)
 refine Qz (fun T' w' => ∃ M88 c90,Mm.ext w.heap.size noX M60 M88∧St w noX M88 [.stk v64 3 1 xs65,.box b8 cs62 58,.box b6 cs12 58,.box b4 cx1 61] w'∧T' 2 = .pointer (some ⟨b4,0,none⟩)∧T' 4 = .pointer (some ⟨b6,0,none⟩)∧T' 5 = .pointer (some ⟨b8,0,none⟩)∧T' 6=v64∧T' 9 = .int .i64 x86∧T' 43=v57∧T' 44 = .int .i64 (x55.length:Int)∧T' 45 = .int .i64 y68∧T' 60 = .bool c90∧reach_j3 d63 l66 y68 rec69 x86 c90=some r) ?_ ?_
 have hF107:=Qg w.heap.size noX M60
 refine Qi <|Qd (Qe (.int .i64 x86) rfl) <|Qd (Va rfl rfl) <|Qd (Qe (.bool (decide (x86≥0))) rfl) ?_
 rcases ic hz with ⟨hc108,hz⟩ | ⟨hc108,hz⟩<;>rw [hc108]
 refine Qk rfl rfl (Qe (.int .i64 x86) rfl) <|Qk rfl rfl (Zq rfl rfl) <|Q2 2 rfl ?_
 rcases ic hz with ⟨hc109,hz⟩ | ⟨hc109,hz⟩<;>rw [hc109]
 refine Qk rfl rfl (Qe (.int .i64 x86) rfl) ?_
 obtain ⟨u110,hx111,hz⟩:=Qb hz
 obtain ⟨hx111a,hx111b⟩:=Qt hx111
 refine Qk rfl rfl (Za Jm hT61_5 rfl hx111a hx111b) ?_
 obtain ⟨x112,hx113,hz⟩:=Qb hz
 refine Qk rfl rfl (Ql (.bool x112) Jk rfl (hS.bvB 1 rfl) (vp (k:=1) rfl rfl (rr hb62) hx113)) <|Qk rfl rfl (Ye rfl) <|Qd (Zp (.bool (!x112)) rfl rfl) ?_
 refine Qf (Qa ?_)
 exact ⟨M60,(!x112),hF107,hS,hT61_2,hT61_4,hT61_5,hT61_6,rfl,hT61_43,hT61_44,hT61_45,rfl,hz⟩
 refine Q2 5 rfl ?_
 refine Qf (Qa ?_)
 exact ⟨M60,false,hF107,hS,hT61_2,hT61_4,hT61_5,hT61_6,rfl,hT61_43,hT61_44,hT61_45,rfl,hz⟩
 refine Q2 9 rfl ?_
 refine Qf (Qa ?_)
 exact ⟨M60,false,hF107,hS,hT61_2,hT61_4,hT61_5,hT61_6,rfl,hT61_43,hT61_44,hT61_45,rfl,hz⟩
 rintro T89 w87 ⟨M88,c90,hx91,hS,hT89_2,hT89_4,hT89_5,hT89_6,hT89_9,hT89_43,hT89_44,hT89_45,hT89_60,hz⟩
 replace hb62:=Rep.mono hx91.1 hb62
 replace hk67:=Zm hx91.1 hk67
 replace hF84:=Qc hF84 hx91
 rw [reach_j3] at hz
 refine Qr hT89_60 (fun hc92 => ?_) (fun hc92 => ?_)
 replace hz:=Qn hz hc92
 refine Qh <|Qi <|Qd (Qe (.int .i64 x86) hT89_9) ?_
 obtain ⟨u93,hx94,hz⟩:=Qb hz
 obtain ⟨hx94a,hx94b⟩:=Qt hx94
 refine Qd (Za Jm hT89_5 rfl hx94a hx94b) ?_
 obtain ⟨x97,hx98,hz⟩:=Qb hz
 obtain ⟨a99,hx100,hz⟩:=Qb hz
 obtain ⟨d101,hd96,hz⟩:=Qb hz
 refine Qu (Q8 1 1 hS rfl hb62 rfl rfl (rb true:rep M88 _ _) rfl rfl (vu (k:=1) rfl rfl (rr hb62) (Lf (vp (k:=1) rfl rfl (rr hb62) hx98) (rb true:rep M88 _ _)) hx100) hd96 ?_)
 intro cs96 w95 hb96 ha96 hs96 hS
 refine Qf (Qa ?_)
 refine Qi <|Qd (Qe (v64) hT89_6) <|Qd (Qe (.int .i64 x86) hT89_9) ?_
 refine Qu (Z0 (α := Int) (l:=([x86]:List Int)) [.int .i64 x86] tl28 (Ys rfl Vf) rfl rfl (by decide) (by decide) (by decide) hS (K5 (ri x86:rep M88 _ _) Ji) ?_)
 intro v103 M103 w102 hx103 hv103 hS
 replace hk67:=Zm hx103.1 hk67
 replace hb96:=Rep.mono hx103.1 hb96
 replace hF84:=Qc hF84 hx103
 obtain ⟨l106,hr105,hz⟩:=Qb hz
 obtain ⟨hy105,hs105⟩:=Z1 hr105
 refine Qu (O_appS (α := Int) (j:=0) Jh hS rfl rfl rfl hk67 hv103 hy105 ?_)
 intro v105 xs105 w104 hk105 hS
 rw [← hs105] at hk105
 clear hr105 hs105
 refine Qd (Qj (v105) rfl) ?_
 refine Qf (Q7 ?_)
 refine (Qa ?_)
 exact ⟨M103,cs96,d101,v105,xs105,l106,hF84,hS,hb96,hk105,hT89_2,hT89_4,hT89_5,rfl,hT89_43,hT89_44,hT89_45,hz⟩
 replace hz:=Qo hz hc92
 refine Qv (Q7 ?_)
 refine (Qa ?_)
 exact ⟨M88,cs62,d63,v64,xs65,l66,hF84,hS,hb62,hk67,hT89_2,hT89_4,hT89_5,hT89_6,hT89_43,hT89_44,hT89_45,hz⟩
 rintro T76 w74 ⟨M75,cs77,d78,v79,xs80,l81,hx83,hS,hb77,hk82,hT76_2,hT76_4,hT76_5,hT76_6,hT76_43,hT76_44,hT76_45,hz⟩
 replace hF71:=Qc hF71 hx83
 rw [reach_j2] at hz
 refine Qi <|Qd (Zz hT76_45 rfl) <|Qd (Qe (.int .i64 (IntKind.wrap .i64 (y68+1))) rfl) ?_
 refine Qf (Qa ?_)
 exact ⟨M75,cs77,d78,v79,xs80,l81,(IntKind.wrap .i64 (y68+1)),hF71,hS,hb77,hk82,hT76_2,hT76_4,hT76_5,hT76_6,hT76_43,hT76_44,rfl,(by rw [← hrec69];exact hz)⟩
 replace hz:=Qo hz hc73
 refine Zs <|Q0 <|Q0 <|Zt ?_
 refine (Q7 ?_)
 refine (Qa ?_)
 exact ⟨M60,cs62,d63,v64,xs65,l66,hF38,hS,hb62,hk67,hT61_2,hT61_4,hT61_5,hT61_6,(by rw [← hrec36];exact hz)⟩
 replace hz:=Qo hz hc41
 refine Zs <|Q0 <|Q0 <|Zt ?_
 refine (Qa ?_)
 refine Qh <|Qi ?_
 have ha114:=(rr hb30)
 refine Qd (Zg ta58 hT29_5 (hS.bvB 1 rfl) (Rep.len ha114)) ?_
 obtain ⟨d117,hd116,hz⟩:=Qb hz
 refine Qu (Q8 2 32 hS rfl hb12 hT29_4 rfl ha114 rfl rfl (Lf (rr hb12) ha114) hd116 ?_)
 intro cs116 w115 hb116 ha116 hs116 hS
 refine Qf (Qa ?_)
 cases hz
 exact Q4 (Jp (j:=2) rfl hT29_4 (by rw [Rep.len hb116];exact ta58) hS rfl (Zj (Qm (Qm (Qm (Qm hS)))) hE ⟨_,rfl,hb116⟩))
def ready_j2 (y16:Int) (rec17:Int→Option Bool):Option Bool :=
 rec17 (IntKind.wrap .i64 (y16+1))
def ready_j3 (y16:Int) (rec17:Int→Option Bool) (c32:Bool):Option Bool :=
 (bif c32 then
 some false
 else
 ready_j2 y16 rec17)
def ready_l1 (x1:GGraph) (r12:(Vector Bool 32)):Nat→Int→Option Bool
 | 0,_=>none
 | n+1,y16 =>
 (bif decide (y16<32) then
 (idxV r12 y16).bind fun x27 =>
 (bif x27 then
 (inR y16 32).bind fun _ =>
 (idxV x1.known y16).bind fun x39 =>
 ready_j3 y16 (ready_l1 x1 r12 n) (!x39)
 else
 ready_j3 y16 (ready_l1 x1 r12 n) false)
 else
 some true)
def ready_j1 (fu:Nat) (x1:GGraph) (x2:Int):Option Bool :=
 (reachD fu x1 x2).bind fun r12 =>
 ready_l1 x1 r12 fu 0
def ready_j4 (fu:Nat) (x1:GGraph) (x2:Int) (c45:Bool):Option Bool :=
 (bif c45 then
 some false
 else
 ready_j1 fu x1 x2)
def readyD (fu:Nat) (x1:GGraph) (x2:Int):Option Bool :=
 (bif decide (x2<0) then
 ready_j4 fu x1 x2 true
 else
 ready_j4 fu x1 x2 (decide (x2≥32)))
set_option maxRecDepth 100000 in
set_option maxHeartbeats 4000000 in
theorem ready_ok {M:Mm} {w:World} {cx1:List Value} {x1:GGraph} {x2:Int} {fu:Nat} {r:Bool} (hA:Agree M w) (hcx1:rep M cx1 x1) (hz:readyD fu x1 x2=some r) :
    Calls Try.prog 55 #[.agg cx1.toArray,.int .i64 x2] w (GivesV w (.bool r)):=by
 refine Zh Try.func55 rfl 29 rfl rfl (by kernel_rfl) fun T hT => ?_
 have hT_0:T 0 = .agg cx1.toArray:=hT 0
 have hT_1:T 1 = .int .i64 x2:=hT 1
 clear hT
 have hE:=Qg w.heap.size noX M
 have hS:St w noX M [] w:=Zv hA
 rw [readyD] at hz
 refine Qh <|Qi ?_
 refine Qu (Yo (v := .agg cx1.toArray) (cs:=cx1) hT_0 rfl hS ?_)
 intro b4 w3 hb4 hS
 refine Qd (Qj (.bool false) rfl) ?_
 refine Qf (Qa ?_)
 refine Qz (fun T' w' => ∃ M6,Mm.ext w.heap.size noX M M6∧St w noX M6 [.box b4 cx1 61] w'∧T' 1 = .int .i64 x2∧T' 2 = .pointer (some ⟨b4,0,none⟩)∧ready_j1 fu x1 x2=some r) ?_ ?_
 have hF41:=Qg w.heap.size noX M
 refine Qz (fun T' w' => ∃ M43 c45,Mm.ext w.heap.size noX M M43∧St w noX M43 [.box b4 cx1 61] w'∧T' 1 = .int .i64 x2∧T' 2 = .pointer (some ⟨b4,0,none⟩)∧T' 12 = .bool c45∧ready_j4 fu x1 x2 c45=some r) ?_ ?_
 have hF48:=Qg w.heap.size noX M
 refine Qi <|Qd (Qe (.int .i64 x2) hT_1) <|Qd (Zq rfl rfl) <|Qd (Qe (.bool (decide (x2<0))) rfl) ?_
 rcases ic hz with ⟨hc49,hz⟩ | ⟨hc49,hz⟩<;>rw [hc49]
 refine Q2 3 rfl ?_
 refine Qf (Qa ?_)
 exact ⟨M,true,hF48,hS,hT_1,rfl,rfl,hz⟩
 refine Qk rfl rfl (Qe (.int .i64 x2) hT_1) <|Qk rfl rfl (Va rfl rfl) <|Qd (Ze (.bool (decide (x2≥32))) rfl rfl) ?_
 refine Qf (Qa ?_)
 exact ⟨M,(decide (x2≥32)),hF48,hS,hT_1,rfl,rfl,hz⟩
 rintro T44 w42 ⟨M43,c45,hx46,hS,hT44_1,hT44_2,hT44_12,hz⟩
 replace hF41:=Qc hF41 hx46
 rw [ready_j4] at hz
 refine Qr hT44_12 (fun hc47 => ?_) (fun hc47 => ?_)
 replace hz:=Qn hz hc47
 refine Qh <|Qi <|Qd (Qj (.bool false) rfl) ?_
 refine Qf (Qa ?_)
 cases hz
 exact Q4 (Qs (Yj rfl rfl ⟨rfl,(Qm hS).kept⟩))
 replace hz:=Qo hz hc47
 refine Qv (Qa ?_)
 exact ⟨M43,hF41,hS,hT44_1,hT44_2,hz⟩
 rintro T7 w5 ⟨M6,hx8,hS,hT7_1,hT7_2,hz⟩
 replace hcx1:=Rep.mono hx8.1 hcx1
 rw [ready_j1] at hz
 refine Qh <|Qh <|Qi ?_
 have ha9:=(rr hcx1)
 refine Qd (Zg ta61 hT7_2 (hS.bvB 0 rfl) (Rep.len ha9)) <|Qd (Qe (.int .i64 x2) hT7_1) ?_
 obtain ⟨r12,hr11,hz⟩:=Qb hz
 refine Qu (Y1 (vs:=[.agg (sl cx1 (0) 64).toArray,.int .i64 x2]) (rv:=(fun M' u => ∃ cs,u = .agg cs.toArray∧rep M' cs r12)) cb76 (Ya rfl rfl) hS (reach_ok hS.agree ha9 hr11) ?_)
 intro u11 M11 w10 hx11 hu11 hS
 obtain ⟨c11,hq11,f11⟩:=hu11
 subst hq11
 replace hcx1:=Rep.mono hx11.1 hcx1
 refine Qd (Qe (.int .i64 0) rfl) ?_
 refine Qf (Qa ?_)
 refine Qy ?_
 refine Zy (fun k18 T' w' => ∃ M14 y16,Mm.ext w.heap.size noX M11 M14∧St w noX M14 [.box b4 cx1 61] w'∧T' 2 = .pointer (some ⟨b4,0,none⟩)∧T' 15 = .agg c11.toArray∧T' 16 = .int .i64 y16∧ready_l1 x1 r12 k18 y16=some r) fu ?_ ?_ ?_
 exact ⟨M11,(0:Int),(Qg _ _ _),hS,hT7_2,rfl,rfl,hz⟩
 rintro T' w' ⟨_,_,_,_,_,_,_,hz⟩
 rw [ready_l1] at hz
 cases hz
 intro k18
 rintro T15 w13 ⟨M14,y16,hx20,hS,hT15_2,hT15_15,hT15_16,hz⟩
 replace hcx1:=Rep.mono hx20.1 hcx1
 replace f11:=Rep.mono hx20.1 f11
 have hF19:=hx20
 rw [ready_l1] at hz
 obtain ⟨rec17,hrec17⟩ : ∃ f,f=ready_l1 x1 r12 k18:=⟨_,rfl⟩
 rw [← hrec17] at hz
 refine Qh <|Qi <|Qd (Zq hT15_16 rfl) ?_
 refine Qf (Qa ?_)
 refine Qh ?_
 refine Qr rfl (fun hc21 => ?_) (fun hc21 => ?_)
 replace hz:=Qn hz hc21
 refine Qv (Qa ?_)
 refine Qz (fun T' w' => ∃ M23,Mm.ext w.heap.size noX M14 M23∧St w noX M23 [.box b4 cx1 61] w'∧T' 2 = .pointer (some ⟨b4,0,none⟩)∧T' 15 = .agg c11.toArray∧T' 16 = .int .i64 y16∧ready_j2 y16 rec17=some r) ?_ ?_
 have hF26:=Qg w.heap.size noX M14
 refine Qy <|Qh <|Qi <|Qd (Qe (.int .i64 y16) hT15_16) ?_
 obtain ⟨x27,hx28,hz⟩:=Qb hz
 obtain ⟨hx28a,hx28b,hx28⟩:=repV_at f11 hx28
 refine Qd (Y_ixV1 (.bool x27) iv58 hT15_15 hT15_16 hx28a hx28b hx28) <|Q2 2 rfl ?_
 refine Qf (Qa ?_)
 refine Qz (fun T' w' => ∃ M30 c32,Mm.ext w.heap.size noX M14 M30∧St w noX M30 [.box b4 cx1 61] w'∧T' 2 = .pointer (some ⟨b4,0,none⟩)∧T' 15 = .agg c11.toArray∧T' 16 = .int .i64 y16∧T' 27 = .bool c32∧ready_j3 y16 rec17 c32=some r) ?_ ?_
 have hF35:=Qg w.heap.size noX M14
 refine Qi <|Q2 2 rfl ?_
 rcases ic hz with ⟨hc36,hz⟩ | ⟨hc36,hz⟩<;>rw [hc36]
 refine Qk rfl rfl (Qe (.int .i64 y16) rfl) <|Qk rfl rfl (Qp fa61_0 hT15_2) ?_
 obtain ⟨u37,hx38,hz⟩:=Qb hz
 obtain ⟨hx38a,hx38b⟩:=Qt hx38
 refine Qk rfl rfl (Za Jm rfl rfl hx38a hx38b) ?_
 obtain ⟨x39,hx40,hz⟩:=Qb hz
 refine Qk rfl rfl (Ql (.bool x39) Jk rfl (hS.bvB 0 rfl) (vp (k:=1) rfl rfl (GGraph.p0 (rr hcx1)) hx40)) <|Qk rfl rfl (Ye rfl) <|Qd (Zp (.bool (!x39)) rfl rfl) ?_
 refine Qf (Qa ?_)
 exact ⟨M14,(!x39),hF35,hS,hT15_2,hT15_15,hT15_16,rfl,hz⟩
 refine Q2 6 rfl ?_
 refine Qf (Qa ?_)
 exact ⟨M14,false,hF35,hS,hT15_2,hT15_15,hT15_16,rfl,hz⟩
 rintro T31 w29 ⟨M30,c32,hx33,hS,hT31_2,hT31_15,hT31_16,hT31_27,hz⟩
 replace hF26:=Qc hF26 hx33
 rw [ready_j3] at hz
 refine Qr hT31_27 (fun hc34 => ?_) (fun hc34 => ?_)
 replace hz:=Qn hz hc34
 refine Qh <|Qi <|Qd (Qj (.bool false) rfl) ?_
 refine Qf (Qa ?_)
 cases hz
 exact Q4 (Zi (Qs (Qs (Zi (Qs (Yj rfl rfl ⟨rfl,(Qm hS).kept⟩))))))
 replace hz:=Qo hz hc34
 refine Qv (Q7 ?_)
 refine (Qa ?_)
 exact ⟨M30,hF26,hS,hT31_2,hT31_15,hT31_16,hz⟩
 rintro T24 w22 ⟨M23,hx25,hS,hT24_2,hT24_15,hT24_16,hz⟩
 replace hF19:=Qc hF19 hx25
 rw [ready_j2] at hz
 refine Qi <|Qd (Zz hT24_16 rfl) <|Qd (Qe (.int .i64 (IntKind.wrap .i64 (y16+1))) rfl) ?_
 refine Qf (Qa ?_)
 exact ⟨M23,(IntKind.wrap .i64 (y16+1)),hF19,hS,hT24_2,hT24_15,rfl,(by rw [← hrec17];exact hz)⟩
 replace hz:=Qo hz hc21
 refine Zs <|Q0 <|Q0 <|Zt ?_
 refine (Qa ?_)
 refine Qh <|Qi <|Qd (Qj (.bool true) rfl) ?_
 refine Qf (Qa ?_)
 cases hz
 exact Q4 (Yj rfl rfl ⟨rfl,(Qm hS).kept⟩)
def visit_j1 (y75:Int) (rec76:GSearch→(List Int)→Int→Option (GSearch × (List Int))) (d85:GSearch) (l88:List Int):Option (GSearch × (List Int)) :=
 rec76 d85 l88 (IntKind.wrap .i64 (y75+1))
def visit_j2 (x4:Int) (rec0:GSearch→(List Int)→Int→Option (GSearch × (List Int))) (d69:GSearch) (l72:List Int) (y75:Int) (rec76:GSearch→(List Int)→Int→Option (GSearch × (List Int))) (x94:Int) (c98:Bool):Option (GSearch × (List Int)) :=
 (bif c98 then
 visit_j1 y75 rec76 d69 l72
 else
 (inR x94 32).bind fun _ =>
 (idxV d69.mark_ x94).bind fun x103 =>
 (bif x103==0 then
 (rec0 d69 l72 x94).bind fun r108 =>
 (inR x4 32).bind fun _ =>
 (idxV r108.1.low x4).bind fun x114 =>
 (inR x94 32).bind fun _ =>
 (idxV r108.1.low x94).bind fun x118 =>
 (inR x4 32).bind fun _ =>
 (idxV r108.1.low x4).bind fun x124 =>
 (setV r108.1.low x4 (min x114 x118)).bind fun a126 =>
 (some ({ r108.1 with low:=a126 }:GSearch)).bind fun d128 =>
 visit_j1 y75 rec76 d128 r108.2
 else
 (inR x94 32).bind fun _ =>
 (idxV d69.on_ x94).bind fun x133 =>
 (bif x133 then
 (inR x4 32).bind fun _ =>
 (idxV d69.low x4).bind fun x141 =>
 (inR x94 32).bind fun _ =>
 (idxV d69.mark_ x94).bind fun x145 =>
 (inR x4 32).bind fun _ =>
 (idxV d69.low x4).bind fun x151 =>
 (setV d69.low x4 (min x141 x145)).bind fun a153 =>
 (some ({ d69 with low:=a153 }:GSearch)).bind fun d155 =>
 visit_j1 y75 rec76 d155 l72
 else
 visit_j1 y75 rec76 d69 l72)))
def visit_l4 (l72:List Int) (y174:Int) (y188:Int) (l198:List Int):Nat→GSearch→Int→Option (GSearch × (List Int))
 | 0,_,_=>none
 | n+1,d204,y206 =>
 (bif decide (y206<(l198.length:Int)) then
 (idx l198 y206).bind fun x213 =>
 (inR x213 32).bind fun _ =>
 (idxV d204.ring x213).bind fun x221 =>
 (setV d204.ring x213 y188).bind fun a223 =>
 (some ({ d204 with ring:=a223 }:GSearch)).bind fun d225 =>
 (inR x213 32).bind fun _ =>
 (idxV d225.on_ x213).bind fun x233 =>
 (setV d225.on_ x213 false).bind fun a235 =>
 (some ({ d225 with on_:=a235 }:GSearch)).bind fun d237 =>
 (visit_l4 l72 y174 y188 l198 n) d237 (IntKind.wrap .i64 (y206+1))
 else
 (cutL l72 none (some y174)).bind fun l242 =>
 (some ({ d204 with stack:=Hole.mk }:GSearch)).bind fun d245 =>
 some (d245,l242))
def visit_l3 (fu:Nat) (d69:GSearch) (l72:List Int) (y174:Int) (l183:List Int):Nat→Int→Int→Option (GSearch × (List Int))
 | 0,_,_=>none
 | n+1,y188,y189 =>
 (bif decide (y189<(l183.length:Int)) then
 (idx l183 y189).bind fun x196 =>
 (visit_l3 fu d69 l72 y174 l183 n) (min y188 x196) (IntKind.wrap .i64 (y189+1))
 else
 (cutL l72 (some y174) none).bind fun l198 =>
 visit_l4 l72 y174 y188 l198 fu d69 0)
def visit_l2 (fu:Nat) (x4:Int) (d69:GSearch) (l72:List Int):Nat→Int→Option (GSearch × (List Int))
 | 0,_=>none
 | n+1,y174 =>
 (idx l72 y174).bind fun x180 =>
 (bif x180 != x4 then
 (visit_l2 fu x4 d69 l72 n) (IntKind.wrap .i64 (y174-1))
 else
 (cutL l72 (some y174) none).bind fun l183 =>
 visit_l3 fu d69 l72 y174 l183 fu x4 0)
def visit_l1 (fu:Nat) (x4:Int) (rec0:GSearch→(List Int)→Int→Option (GSearch × (List Int))) (x61:List Int):Nat→GSearch→(List Int)→Int→Option (GSearch × (List Int))
 | 0,_,_,_=>none
 | n+1,d69,l72,y75 =>
 (bif decide (y75<(x61.length:Int)) then
 (idx x61 y75).bind fun x94 =>
 (bif decide (x94<0) then
 visit_j2 x4 rec0 d69 l72 y75 (visit_l1 fu x4 rec0 x61 n) x94 true
 else
 visit_j2 x4 rec0 d69 l72 y75 (visit_l1 fu x4 rec0 x61 n) x94 (decide (x94≥32)))
 else
 (inR x4 32).bind fun _ =>
 (idxV d69.low x4).bind fun x162 =>
 (inR x4 32).bind fun _ =>
 (idxV d69.mark_ x4).bind fun x166 =>
 (bif x162 != x166 then
 some (d69,l72)
 else
 visit_l2 fu x4 d69 l72 fu (IntKind.wrap .i64 ((l72.length:Int)-1))))
def visit_r (fu:Nat):Nat→GSearch→(List Int)→Int→Option (GSearch × (List Int))
 | 0,_,_,_=>none
 | n+1,x1,l3,x4 =>
 (some ({ x1 with next:=IntKind.wrap .i64 (x1.next+1) }:GSearch)).bind fun d7 =>
 (inR x4 32).bind fun _ =>
 (idxV d7.mark_ x4).bind fun x16 =>
 (setV d7.mark_ x4 d7.next).bind fun a18 =>
 (some ({ d7 with mark_:=a18 }:GSearch)).bind fun d20 =>
 (inR x4 32).bind fun _ =>
 (idxV d20.low x4).bind fun x27 =>
 (setV d20.low x4 d7.next).bind fun a29 =>
 (some ({ d20 with low:=a29 }:GSearch)).bind fun d31 =>
 (app l3 ([x4]:List Int)).bind fun l42 =>
 (some ({ d31 with stack:=Hole.mk }:GSearch)).bind fun d46 =>
 (inR x4 32).bind fun _ =>
 (idxV d46.on_ x4).bind fun x52 =>
 (setV d46.on_ x4 true).bind fun a54 =>
 (some ({ d46 with on_:=a54 }:GSearch)).bind fun d56 =>
 (inR x4 32).bind fun _ =>
 (idxV d56.g.deps x4).bind fun x61 =>
 visit_l1 fu x4 (visit_r fu n) x61 fu d56 l42 0
def visitD (fu:Nat) (x1:GSearch) (l3:List Int) (x4:Int):Option (GSearch × (List Int)) :=
 visit_r fu fu x1 l3 x4
set_option maxRecDepth 100000 in
set_option maxHeartbeats 4000000 in
theorem visit_rok (fu:Nat) : ∀ (nn:Nat) {M:Mm} {w:World} {bx1:Nat} {cx1:List Value} {ux1_4:Value} {xsx1_4:List Value} {x1:GSearch} {l3:List Int} {x4:Int} {r:GSearch × (List Int)} (hS:St w (lentX [.box bx1 cx1 104,.stk ux1_4 3 1 xsx1_4]) M [.box bx1 cx1 104,.stk ux1_4 3 1 xsx1_4] w) (hcx1:rep M cx1 x1) (hkx1_4:skr M ux1_4 xsx1_4 l3) (hpx1_4:sl cx1 160 1=[ux1_4]) (hz:visit_r fu nn x1 l3 x4=some r),
    Calls Try.prog 56 #[.pointer (some ⟨bx1,0,none⟩),.int .i64 x4] w (GivesL M w [.box bx1 cx1 104,.stk ux1_4 3 1 xsx1_4] (fun M' u L' => ∃ k0 u1 x1,u = .tuple #[]∧L'=[.box bx1 k0 104,.stk u1 3 1 x1]∧rep M' k0 r.1∧skr M' u1 x1 r.2∧sl k0 160 1=[u1])):=by
 intro nn
 induction nn with
 | zero=>intros;rename_i hz;rw [visit_r] at hz;cases hz
 | succ nn ih =>
  intro M w bx1 cx1 ux1_4 xsx1_4 x1 l3 x4 r hS hcx1 hkx1_4 hpx1_4 hz
  refine Zh Try.func56 rfl 204 rfl rfl (by kernel_rfl) fun T hT => ?_
  have hT_0:T 0 = .pointer (some ⟨bx1,0,none⟩):=hT 0
  have hT_1:T 1 = .int .i64 x4:=hT 1
  clear hT
  have hE:=Qg w.heap.size (lentX [.box bx1 cx1 104,.stk ux1_4 3 1 xsx1_4]) M
  rw [visit_r] at hz
  obtain ⟨rec0,hrec0⟩ : ∃ f,f=visit_r fu nn:=⟨_,rfl⟩
  rw [← hrec0] at hz ih
  refine Qh <|Qi <|Qd (Qe (.pointer (some ⟨bx1,0,none⟩)) hT_0) <|Qd (Q6 rfl) <|Qd (Qp fa104_6 rfl) <|Qd (Ql (.int .i64 x1.next) Z5 rfl (hS.bvB 0 rfl) (GSearch.p6 (rr hcx1))) <|Qd (Zz rfl rfl) <|Qd (Q6 rfl) <|Qd (Qp fa104_6 rfl) ?_
  obtain ⟨d7,hd6,hz⟩:=Qb hz
  refine Qu (Q8 0 1 hS rfl hcx1 rfl rfl (ri (IntKind.wrap .i64 (x1.next+1)):rep M _ _) rfl rfl (GSearch.u6 (rr hcx1) (Lf (GSearch.p6 (rr hcx1)) (ri (IntKind.wrap .i64 (x1.next+1)):rep M _ _))) hd6 ?_)
  intro cs6 w5 hb6 ha6 hs6 hS
  have hp8:=(ha6 (by omega)).trans hpx1_4
  refine Qf (Qa ?_)
  refine Qh <|Yt [.box bx1 cs6 104] [15,19] Z6 hS fun w9 hS hG10 hR11=>wy 0 rfl (Qe (.pointer (some ⟨bx1,0,none⟩)) hT_0) (fun _=>hR11) <|wy 1 rfl (Qe (.int .i64 x4) hT_1) (fun _=>hR11) <|wy 2 rfl (Qe (.pointer (some ⟨bx1,0,none⟩)) hT_0) (fun _=>hR11) <|wy 3 rfl (Qe (.int .i64 x4) hT_1) (fun _=>hR11) <|wy 4 rfl (Qe (.pointer (some ⟨bx1,0,none⟩)) hT_0) (fun _=>hR11) <|wy 5 rfl (Q6 rfl) (fun _=>hR11) <|wy 6 rfl (Qp fa104_6 rfl) (fun _=>hR11) <|Y6 7 rfl (Ql (.int .i64 d7.next) Z5 rfl (Ym 0 rfl) (GSearch.p6 (rr hb6))) hR11 <|wy 8 rfl (Qe (.pointer (some ⟨bx1,0,none⟩)) hT_0) (fun _=>hR11) <|wy 9 rfl (Q6 rfl) (fun _=>hR11) <|wy 10 rfl (Qp fa104_6 rfl) (fun _=>hR11) <|Y6 11 rfl (Ql (.int .i64 d7.next) Z5 rfl (Ym 0 rfl) (GSearch.p6 (rr hb6))) hR11 <|wy 12 rfl (Q6 rfl) (fun _=>hR11) <|wy 13 rfl (Qp Jd rfl) (fun _=>hR11) ?_
  obtain ⟨u12,hx13,hz⟩:=Qb hz
  obtain ⟨hx13a,hx13b⟩:=Qt hx13
  refine wy 14 rfl (Za V1 rfl rfl hx13a hx13b) (fun _=>hR11) <|wy 16 rfl (Q6 rfl) (fun _=>hR11) <|wy 17 rfl (Qp Je rfl) (fun _=>hR11) ?_
  obtain ⟨x16,hx17,hz⟩:=Qb hz
  obtain ⟨a18,hx19,hz⟩:=Qb hz
  obtain ⟨d20,hd15,hz⟩:=Qb hz
  have hq22:=(Zn hx17)
  refine w1 15 rfl (Q8 0 1 hS rfl hb6 rfl rfl (ri d7.next:rep M _ _) rfl rfl (GSearch.u1 (rr hb6) (vu (k:=1) rfl rfl (Vs (rr hb6)) (Lf (vp (k:=1) rfl rfl (Vs (rr hb6)) hx17) (ri d7.next:rep M _ _)) hx19)) hd15 ?_)
  intro cs15 w14 hb15 ha15 hs15 hS
  have hp21:=(ha15 (by omega)).trans hp8
  refine ⟨nB,?_⟩
  obtain ⟨u23,hx24,hz⟩:=Qb hz
  obtain ⟨hx24a,hx24b⟩:=Qt hx24
  refine wy 18 rfl (Za V1 rfl rfl hx24a hx24b) nB ?_
  obtain ⟨x27,hx28,hz⟩:=Qb hz
  obtain ⟨a29,hx30,hz⟩:=Qb hz
  obtain ⟨d31,hd26,hz⟩:=Qb hz
  have hq33:=(Zn hx28)
  refine w1 19 rfl (Q8 0 1 hS rfl hb15 rfl rfl (ri d7.next:rep M _ _) rfl rfl (GSearch.u2 (rr hb15) (vu (k:=1) rfl rfl (Y7 (rr hb15)) (Lf (vp (k:=1) rfl rfl (Y7 (rr hb15)) hx28) (ri d7.next:rep M _ _)) hx30)) hd26 ?_)
  intro cs26 w25 hb26 ha26 hs26 hS
  have hp32:=(ha26 (by omega)).trans hp21
  refine ⟨nB,?_⟩
  refine wd (Qa ?_)
  refine Qh <|Yt [.box bx1 cs26 104] [12,16] Z6 hS fun w34 hS hG35 hR36=>wy 0 rfl (Qe (.pointer (some ⟨bx1,0,none⟩)) hT_0) (fun _=>hR36) <|wy 1 rfl (Qe (.pointer (some ⟨bx1,0,none⟩)) hT_0) (fun _=>hR36) <|wy 2 rfl (Qe (.int .i64 x4) hT_1) (fun _=>hR36) <|wy 3 rfl (Qe (.pointer (some ⟨bx1,0,none⟩)) hT_0) (fun _=>hR36) <|wy 4 rfl (Q6 rfl) (fun _=>hR36) <|wy 5 rfl (Qp Ky rfl) (fun _=>hR36) <|Y6 6 rfl (Ql ux1_4 Z2 rfl (Ym 0 rfl) hp32) hR36 <|wy 7 rfl (Qe (.int .i64 x4) hT_1) (fun _=>hR36) <|wy 13 rfl (Q6 rfl) (fun _=>hR36) <|wy 14 rfl (Qp fa104_3 rfl) (fun _=>hR36) ?_
  refine w1 8 rfl (Z0 (α := Int) (l:=([x4]:List Int)) [.int .i64 x4] tl28 (Ys rfl Vf) rfl rfl (by decide) (by decide) (by decide) hS (K5 (ri x4:rep M _ _) Ji) ?_)
  intro v38 M38 w37 hx38 hv38 hS
  replace hkx1_4:=Zm hx38.1 hkx1_4
  replace hb26:=Rep.mono hx38.1 hb26
  replace hE:=Qc hE hx38
  replace hG35:=Qc hG35 hx38
  refine Yr hS hG35 fun hR39 => ?_
  obtain ⟨l42,hr41,hz⟩:=Qb hz
  obtain ⟨hy41,hs41⟩:=Z1 hr41
  refine w1 9 rfl (O_appS (α := Int) (j:=1) Jh hS rfl rfl rfl hkx1_4 hv38 hy41 ?_)
  intro v41 xs41 w40 hk41 hS
  rw [← hs41] at hk41
  clear hr41 hs41
  refine Yr hS hG35 fun hR43=>wy 10 rfl (Q6 rfl) (fun _=>hR43) <|wy 11 rfl (Qp Ky rfl) (fun _=>hR43) ?_
  obtain ⟨d46,hd45,hz⟩:=Qb hz
  refine w1 12 rfl (Q8 0 1 hS rfl hb26 rfl rfl (Ki hk41) (skr_cells hk41) rfl (GSearch.u4 (rr hb26) (Lf (GSearch.p4 (rr hb26)) (Ki hk41))) hd45 ?_)
  intro cs45 w44 hb45 ha45 hs45 hS
  have hp47:=hs45
  refine ⟨nB,?_⟩
  obtain ⟨u48,hx49,hz⟩:=Qb hz
  obtain ⟨hx49a,hx49b⟩:=Qt hx49
  refine wy 15 rfl (Za Jm rfl rfl hx49a hx49b) nB ?_
  obtain ⟨x52,hx53,hz⟩:=Qb hz
  obtain ⟨a54,hx55,hz⟩:=Qb hz
  obtain ⟨d56,hd51,hz⟩:=Qb hz
  have hq58:=(Zn hx53)
  refine w1 16 rfl (Q8 0 1 hS rfl hb45 rfl rfl (rb true:rep M38 _ _) rfl rfl (GSearch.u3 (rr hb45) (vu (k:=1) rfl rfl (Kz (rr hb45)) (Lf (vp (k:=1) rfl rfl (Kz (rr hb45)) hx53) (rb true:rep M38 _ _)) hx55)) hd51 ?_)
  intro cs51 w50 hb51 ha51 hs51 hS
  have hp57:=(ha51 (by omega)).trans hp47
  refine ⟨nB,?_⟩
  refine wd (Qa ?_)
  refine Qh <|Qh <|Qi <|Qd (Qe (.pointer (some ⟨bx1,0,none⟩)) hT_0) <|Qd (Qe (.int .i64 x4) hT_1) <|Qd (Q6 rfl) <|Qd (Qp fa104_0 rfl) <|Qd (Qp fa61_1 rfl) ?_
  obtain ⟨u59,hx60,hz⟩:=Qb hz
  obtain ⟨hx60a,hx60b⟩:=Qt hx60
  refine Qd (Za ia59 rfl rfl hx60a hx60b) ?_
  obtain ⟨x61,hx62,hz⟩:=Qb hz
  obtain ⟨v63,ev63,hv63⟩:=(vp (k:=1) rfl rfl (Jc (GSearch.p0 (rr hb51))) hx62)
  refine Qd (Ql v63 Z2 rfl (hS.bvB 0 rfl) ev63) ?_
  obtain ⟨a64,c64,hv64,_⟩:=Q3 hv63
  refine Qd (Zk Qq (Vw hv64 rfl)) <|Qd (Qe (.int .i64 0) rfl) ?_
  refine Qf (Qa ?_)
  refine Qy ?_
  refine Zy (fun k77 T' w' => ∃ M66 cs68 d69 v70 xs71 l72 y75,Mm.ext w.heap.size (lentX [.box bx1 cx1 104,.stk ux1_4 3 1 xsx1_4]) M38 M66∧St w (lentX [.box bx1 cx1 104,.stk ux1_4 3 1 xsx1_4]) M66 [.box bx1 cs68 104,.stk v70 3 1 xs71] w'∧rep M66 cs68 d69∧skr M66 v70 xs71 l72∧sl cs68 (0+160) 1=[v70]∧T' 0 = .pointer (some ⟨bx1,0,none⟩)∧T' 1 = .int .i64 x4∧T' 58=v63∧T' 59 = .int .i64 (x61.length:Int)∧T' 60 = .int .i64 y75∧visit_l1 fu x4 rec0 x61 k77 d69 l72 y75=some r) fu ?_ ?_ ?_
  exact ⟨M38,cs51,d56,v41,xs41,l42,(0:Int),(Qg _ _ _),hS,hb51,hk41,hp57,hT_0,hT_1,rfl,rfl,rfl,hz⟩
  rintro T' w' ⟨_,_,_,_,_,_,_,_,_,_,_,_,_,_,_,_,_,hz⟩
  rw [visit_l1] at hz
  cases hz
  intro k77
  rintro T67 w65 ⟨M66,cs68,d69,v70,xs71,l72,y75,hx79,hS,hb68,hk73,hp74,hT67_0,hT67_1,hT67_58,hT67_59,hT67_60,hz⟩
  replace hv63:=Qw hx79.1 hv63
  replace hE:=Qc hE hx79
  have hF78:=hx79
  rw [visit_l1] at hz
  obtain ⟨rec76,hrec76⟩ : ∃ f,f=visit_l1 fu x4 rec0 x61 k77:=⟨_,rfl⟩
  rw [← hrec76] at hz
  refine Qh <|Qi <|Qd (Zq hT67_60 hT67_59) ?_
  refine Qf (Qa ?_)
  refine Qh ?_
  refine Qr rfl (fun hc80 => ?_) (fun hc80 => ?_)
  replace hz:=Qn hz hc80
  refine Qv (Qa ?_)
  refine Qz (fun T' w' => ∃ M82 cs84 d85 v86 xs87 l88,Mm.ext w.heap.size (lentX [.box bx1 cx1 104,.stk ux1_4 3 1 xsx1_4]) M66 M82∧St w (lentX [.box bx1 cx1 104,.stk ux1_4 3 1 xsx1_4]) M82 [.box bx1 cs84 104,.stk v86 3 1 xs87] w'∧rep M82 cs84 d85∧skr M82 v86 xs87 l88∧sl cs84 (0+160) 1=[v86]∧T' 0 = .pointer (some ⟨bx1,0,none⟩)∧T' 1 = .int .i64 x4∧T' 58=v63∧T' 59 = .int .i64 (x61.length:Int)∧T' 60 = .int .i64 y75∧visit_j1 y75 rec76 d85 l88=some r) ?_ ?_
  have hF92:=Qg w.heap.size (lentX [.box bx1 cx1 104,.stk ux1_4 3 1 xsx1_4]) M66
  refine Qy <|Qh <|Qi ?_
  obtain ⟨x94,hx93,hz⟩:=Qb hz
  obtain ⟨b93,o93,c93,p93,hv93,hi93,hj93,hM93,hr93⟩:=Yd hv63 hx93
  replace hr93:rep _ (sl p93 (o93+Int.toNat y75*1) 1) x94:=hr93
  refine Qd (Yq V6 hT67_58 hv93 hT67_60 hi93 hj93) <|Qd (Ql (.int .i64 x94) Z5 rfl (hS.bvM hM93) hr93) <|Qd (Qj (.int .i64 x94) rfl) ?_
  refine Qf (Qa ?_)
  refine Qy ?_
  refine Qz (fun T' w' => ∃ M96 c98,Mm.ext w.heap.size (lentX [.box bx1 cx1 104,.stk ux1_4 3 1 xsx1_4]) M66 M96∧St w (lentX [.box bx1 cx1 104,.stk ux1_4 3 1 xsx1_4]) M96 [.box bx1 cs68 104,.stk v70 3 1 xs71] w'∧T' 0 = .pointer (some ⟨bx1,0,none⟩)∧T' 1 = .int .i64 x4∧T' 5 = .int .i64 x94∧T' 58=v63∧T' 59 = .int .i64 (x61.length:Int)∧T' 60 = .int .i64 y75∧T' 64 = .bool c98∧visit_j2 x4 rec0 d69 l72 y75 rec76 x94 c98=some r) ?_ ?_
  have hF158:=Qg w.heap.size (lentX [.box bx1 cx1 104,.stk ux1_4 3 1 xsx1_4]) M66
  refine Qi <|Qd (Qe (.int .i64 x94) rfl) <|Qd (Zq rfl rfl) <|Qd (Qe (.bool (decide (x94<0))) rfl) ?_
  rcases ic hz with ⟨hc159,hz⟩ | ⟨hc159,hz⟩<;>rw [hc159]
  refine Q2 4 rfl ?_
  refine Qf (Qa ?_)
  exact ⟨M66,true,hF158,hS,hT67_0,hT67_1,rfl,hT67_58,hT67_59,hT67_60,rfl,hz⟩
  refine Qk rfl rfl (Qe (.int .i64 x94) rfl) <|Qk rfl rfl (Va rfl rfl) <|Q2 2 rfl ?_
  refine Qf (Qa ?_)
  exact ⟨M66,(decide (x94≥32)),hF158,hS,hT67_0,hT67_1,rfl,hT67_58,hT67_59,hT67_60,rfl,hz⟩
  rintro T97 w95 ⟨M96,c98,hx99,hS,hT97_0,hT97_1,hT97_5,hT97_58,hT97_59,hT97_60,hT97_64,hz⟩
  replace hb68:=Rep.mono hx99.1 hb68
  replace hk73:=Zm hx99.1 hk73
  replace hF92:=Qc hF92 hx99
  rw [visit_j2] at hz
  refine Qr hT97_64 (fun hc100 => ?_) (fun hc100 => ?_)
  replace hz:=Qn hz hc100
  refine Qv (Q7 ?_)
  refine (Q7 ?_)
  refine (Qa ?_)
  exact ⟨M96,cs68,d69,v70,xs71,l72,hF92,hS,hb68,hk73,hp74,hT97_0,hT97_1,hT97_58,hT97_59,hT97_60,hz⟩
  replace hz:=Qo hz hc100
  refine Qh <|Qi <|Qd (Qe (.pointer (some ⟨bx1,0,none⟩)) hT97_0) <|Qd (Qe (.int .i64 x94) hT97_5) <|Qd (Q6 rfl) <|Qd (Qp Jd rfl) ?_
  obtain ⟨u101,hx102,hz⟩:=Qb hz
  obtain ⟨hx102a,hx102b⟩:=Qt hx102
  refine Qd (Za V1 rfl rfl hx102a hx102b) ?_
  obtain ⟨x103,hx104,hz⟩:=Qb hz
  refine Qd (Ql (.int .i64 x103) Z5 rfl (hS.bvB 0 rfl) (vp (k:=1) rfl rfl (Vs (rr hb68)) hx104)) <|Qd (Yc rfl rfl) <|Qd (Qj (.bool (x103==0)) rfl) ?_
  refine Qf (Qa ?_)
  refine Qr rfl (fun hc105 => ?_) (fun hc105 => ?_)
  replace hz:=Qn hz hc105
  refine Qh <|Qi <|Qd (Qe (.pointer (some ⟨bx1,0,none⟩)) hT97_0) <|Qd (Qe (.int .i64 x94) hT97_5) ?_
  obtain ⟨r108,hr107,hz⟩:=Qb hz
  refine Qu (Zw (vs:=[.pointer (some ⟨bx1,0,none⟩),.int .i64 x94]) (L:=[.box bx1 cs68 104,.stk v70 3 1 xs71]) (R:=[]) (rv:=(fun M' u L' => ∃ k0 u1 x1,u = .tuple #[]∧L'=[.box bx1 k0 104,.stk u1 3 1 x1]∧rep M' k0 r108.1∧skr M' u1 x1 r108.2∧sl k0 160 1=[u1])) cb56 (Ya rfl rfl) hS (hS.sel [0,1] (by decide) rfl) (fun hS=>ih hS hb68 hk73 hp74 hr107) ?_)
  rintro u107 M107 w106 L107 hx107 ⟨k0_107,u1_107,x1_107,rfl,hL107,f107_0,f107_1,f107_2⟩ hS
  replace hS:=hS _ hL107
  replace hF92:=Qc hF92 hx107
  refine Qf (Qa ?_)
  refine Yt [.box bx1 k0_107 104] [18] Z6 hS fun w109 hS hG110 hR111=>wy 0 rfl (Qe (.pointer (some ⟨bx1,0,none⟩)) hT97_0) (fun _=>hR111) <|wy 1 rfl (Qe (.int .i64 x4) hT97_1) (fun _=>hR111) <|wy 2 rfl (Qe (.pointer (some ⟨bx1,0,none⟩)) hT97_0) (fun _=>hR111) <|wy 3 rfl (Qe (.int .i64 x4) hT97_1) (fun _=>hR111) <|wy 4 rfl (Q6 rfl) (fun _=>hR111) <|wy 5 rfl (Qp Je rfl) (fun _=>hR111) ?_
  obtain ⟨u112,hx113,hz⟩:=Qb hz
  obtain ⟨hx113a,hx113b⟩:=Qt hx113
  refine wy 6 rfl (Za V1 rfl rfl hx113a hx113b) (fun _=>hR111) ?_
  obtain ⟨x114,hx115,hz⟩:=Qb hz
  refine Y6 7 rfl (Ql (.int .i64 x114) Z5 rfl (Ym 0 rfl) (vp (k:=1) rfl rfl (Y7 (rr f107_0)) hx115)) hR111 <|wy 8 rfl (Qe (.pointer (some ⟨bx1,0,none⟩)) hT97_0) (fun _=>hR111) <|wy 9 rfl (Qe (.int .i64 x94) hT97_5) (fun _=>hR111) <|wy 10 rfl (Q6 rfl) (fun _=>hR111) <|wy 11 rfl (Qp Je rfl) (fun _=>hR111) ?_
  obtain ⟨u116,hx117,hz⟩:=Qb hz
  obtain ⟨hx117a,hx117b⟩:=Qt hx117
  refine wy 12 rfl (Za V1 rfl rfl hx117a hx117b) (fun _=>hR111) ?_
  obtain ⟨x118,hx119,hz⟩:=Qb hz
  refine Y6 13 rfl (Ql (.int .i64 x118) Z5 rfl (Ym 0 rfl) (vp (k:=1) rfl rfl (Y7 (rr f107_0)) hx119)) hR111 <|wy 14 rfl (Y_min rfl rfl) (fun _=>hR111) <|wy 15 rfl (Q6 rfl) (fun _=>hR111) <|wy 16 rfl (Qp Je rfl) (fun _=>hR111) ?_
  obtain ⟨u120,hx121,hz⟩:=Qb hz
  obtain ⟨hx121a,hx121b⟩:=Qt hx121
  refine wy 17 rfl (Za V1 rfl rfl hx121a hx121b) (fun _=>hR111) ?_
  obtain ⟨x124,hx125,hz⟩:=Qb hz
  obtain ⟨a126,hx127,hz⟩:=Qb hz
  obtain ⟨d128,hd123,hz⟩:=Qb hz
  have hq130:=(Zn hx125)
  refine w1 18 rfl (Q8 0 1 hS rfl f107_0 rfl rfl (ri (min x114 x118):rep M107 _ _) rfl rfl (GSearch.u2 (rr f107_0) (vu (k:=1) rfl rfl (Y7 (rr f107_0)) (Lf (vp (k:=1) rfl rfl (Y7 (rr f107_0)) hx125) (ri (min x114 x118):rep M107 _ _)) hx127)) hd123 ?_)
  intro cs123 w122 hb123 ha123 hs123 hS
  have hp129:=(ha123 (by omega)).trans f107_2
  refine ⟨nB,?_⟩
  refine wd (Q7 ?_)
  refine (Q7 ?_)
  refine (Qa ?_)
  exact ⟨M107,cs123,d128,u1_107,x1_107,r108.2,hF92,hS,hb123,f107_1,hp129,hT97_0,hT97_1,hT97_58,hT97_59,hT97_60,hz⟩
  replace hz:=Qo hz hc105
  refine Qh <|Qi <|Qd (Qe (.pointer (some ⟨bx1,0,none⟩)) hT97_0) <|Qd (Qe (.int .i64 x94) hT97_5) <|Qd (Q6 rfl) <|Qd (Qp fa104_3 rfl) ?_
  obtain ⟨u131,hx132,hz⟩:=Qb hz
  obtain ⟨hx132a,hx132b⟩:=Qt hx132
  refine Qd (Za Jm rfl rfl hx132a hx132b) ?_
  obtain ⟨x133,hx134,hz⟩:=Qb hz
  refine Qd (Ql (.bool x133) Jk rfl (hS.bvB 0 rfl) (vp (k:=1) rfl rfl (Kz (rr hb68)) hx134)) <|Qd (Qj (.bool x133) rfl) ?_
  refine Qf (Qa ?_)
  refine Qr rfl (fun hc135 => ?_) (fun hc135 => ?_)
  replace hz:=Qn hz hc135
  refine Yt [.box bx1 cs68 104] [18] Z6 hS fun w136 hS hG137 hR138=>wy 0 rfl (Qe (.pointer (some ⟨bx1,0,none⟩)) hT97_0) (fun _=>hR138) <|wy 1 rfl (Qe (.int .i64 x4) hT97_1) (fun _=>hR138) <|wy 2 rfl (Qe (.pointer (some ⟨bx1,0,none⟩)) hT97_0) (fun _=>hR138) <|wy 3 rfl (Qe (.int .i64 x4) hT97_1) (fun _=>hR138) <|wy 4 rfl (Q6 rfl) (fun _=>hR138) <|wy 5 rfl (Qp Je rfl) (fun _=>hR138) ?_
  obtain ⟨u139,hx140,hz⟩:=Qb hz
  obtain ⟨hx140a,hx140b⟩:=Qt hx140
  refine wy 6 rfl (Za V1 rfl rfl hx140a hx140b) (fun _=>hR138) ?_
  obtain ⟨x141,hx142,hz⟩:=Qb hz
  refine Y6 7 rfl (Ql (.int .i64 x141) Z5 rfl (Ym 0 rfl) (vp (k:=1) rfl rfl (Y7 (rr hb68)) hx142)) hR138 <|wy 8 rfl (Qe (.pointer (some ⟨bx1,0,none⟩)) hT97_0) (fun _=>hR138) <|wy 9 rfl (Qe (.int .i64 x94) hT97_5) (fun _=>hR138) <|wy 10 rfl (Q6 rfl) (fun _=>hR138) <|wy 11 rfl (Qp Jd rfl) (fun _=>hR138) ?_
  obtain ⟨u143,hx144,hz⟩:=Qb hz
  obtain ⟨hx144a,hx144b⟩:=Qt hx144
  refine wy 12 rfl (Za V1 rfl rfl hx144a hx144b) (fun _=>hR138) ?_
  obtain ⟨x145,hx146,hz⟩:=Qb hz
  refine Y6 13 rfl (Ql (.int .i64 x145) Z5 rfl (Ym 0 rfl) (vp (k:=1) rfl rfl (Vs (rr hb68)) hx146)) hR138 <|wy 14 rfl (Y_min rfl rfl) (fun _=>hR138) <|wy 15 rfl (Q6 rfl) (fun _=>hR138) <|wy 16 rfl (Qp Je rfl) (fun _=>hR138) ?_
  obtain ⟨u147,hx148,hz⟩:=Qb hz
  obtain ⟨hx148a,hx148b⟩:=Qt hx148
  refine wy 17 rfl (Za V1 rfl rfl hx148a hx148b) (fun _=>hR138) ?_
  obtain ⟨x151,hx152,hz⟩:=Qb hz
  obtain ⟨a153,hx154,hz⟩:=Qb hz
  obtain ⟨d155,hd150,hz⟩:=Qb hz
  have hq157:=(Zn hx152)
  refine w1 18 rfl (Q8 0 1 hS rfl hb68 rfl rfl (ri (min x141 x145):rep M96 _ _) rfl rfl (GSearch.u2 (rr hb68) (vu (k:=1) rfl rfl (Y7 (rr hb68)) (Lf (vp (k:=1) rfl rfl (Y7 (rr hb68)) hx152) (ri (min x141 x145):rep M96 _ _)) hx154)) hd150 ?_)
  intro cs150 w149 hb150 ha150 hs150 hS
  have hp156:=(ha150 (by omega)).trans hp74
  refine ⟨nB,?_⟩
  refine wd (Q7 ?_)
  refine (Q7 ?_)
  refine (Qa ?_)
  exact ⟨M96,cs150,d155,v70,xs71,l72,hF92,hS,hb150,hk73,hp156,hT97_0,hT97_1,hT97_58,hT97_59,hT97_60,hz⟩
  replace hz:=Qo hz hc135
  refine Qv (Q7 ?_)
  refine (Q7 ?_)
  refine (Qa ?_)
  exact ⟨M96,cs68,d69,v70,xs71,l72,hF92,hS,hb68,hk73,hp74,hT97_0,hT97_1,hT97_58,hT97_59,hT97_60,hz⟩
  rintro T83 w81 ⟨M82,cs84,d85,v86,xs87,l88,hx91,hS,hb84,hk89,hp90,hT83_0,hT83_1,hT83_58,hT83_59,hT83_60,hz⟩
  replace hF78:=Qc hF78 hx91
  rw [visit_j1] at hz
  refine Qi <|Qd (Zz hT83_60 rfl) <|Qd (Qe (.int .i64 (IntKind.wrap .i64 (y75+1))) rfl) ?_
  refine Qf (Qa ?_)
  exact ⟨M82,cs84,d85,v86,xs87,l88,(IntKind.wrap .i64 (y75+1)),hF78,hS,hb84,hk89,hp90,hT83_0,hT83_1,hT83_58,hT83_59,rfl,(by rw [← hrec76];exact hz)⟩
  replace hz:=Qo hz hc80
  refine Zs <|Q0 <|Q0 <|Zt ?_
  refine (Qa ?_)
  refine Qh <|Qh <|W_drawq Z6 (by kernel_rfl) hS <|Yn (Qe (.pointer (some ⟨bx1,0,none⟩)) hT67_0) <|Yn (Qe (.int .i64 x4) hT67_1) <|Yn (Q6 rfl) <|Yn (Qp Je rfl) ?_
  obtain ⟨u160,hx161,hz⟩:=Qb hz
  obtain ⟨hx161a,hx161b⟩:=Qt hx161
  refine Yn (Za V1 rfl rfl hx161a hx161b) ?_
  obtain ⟨x162,hx163,hz⟩:=Qb hz
  refine Yn (Ql (.int .i64 x162) Z5 rfl (bvBS (j:=0) rfl) (vp (k:=1) rfl rfl (Y7 (rr hb68)) hx163)) <|Yn (Qe (.pointer (some ⟨bx1,0,none⟩)) hT67_0) <|Yn (Qe (.int .i64 x4) hT67_1) <|Yn (Q6 rfl) <|Yn (Qp Jd rfl) ?_
  obtain ⟨u164,hx165,hz⟩:=Qb hz
  obtain ⟨hx165a,hx165b⟩:=Qt hx165
  refine Yn (Za V1 rfl rfl hx165a hx165b) ?_
  obtain ⟨x166,hx167,hz⟩:=Qb hz
  refine Yn (Ql (.int .i64 x166) Z5 rfl (bvBS (j:=0) rfl) (vp (k:=1) rfl rfl (Vs (rr hb68)) hx167)) <|Yn (Yp rfl rfl) <|WQ_nil ?_
  intro w168 hS
  refine (Qa ?_)
  refine Qr rfl (fun hc169 => ?_) (fun hc169 => ?_)
  replace hz:=Qn hz hc169
  cases hz
  exact Q4 (Qs (R_t0 rfl  ⟨_,M66,_,rfl,hE,(hS.sel (H':=[.box bx1 cs68 104,.stk v70 3 1 xs71]) [0,1] (by decide) rfl),cs68,v70,xs71,rfl,rfl,hb68,hk73,hp74⟩))
  replace hz:=Qo hz hc169
  refine Qv (Qa ?_)
  refine Qh <|Qi <|Qd (Qe (.pointer (some ⟨bx1,0,none⟩)) hT67_0) <|Qd (Q6 rfl) <|Qd (Qp Ky rfl) <|Qd (Ql v70 Z2 rfl (hS.bvB 0 rfl) hp74) ?_
  obtain ⟨a170,c170,hv170,_⟩:=Vj hk73
  refine Qd (Zk Qq (Vw hv170 rfl)) <|Qd (Kf rfl rfl) <|Qd (Qj (.int .i64 (IntKind.wrap .i64 ((l72.length:Int)-1))) rfl) ?_
  refine Qf (Qa ?_)
  refine Qh <|Qy ?_
  refine Zy (fun k176 T' w' => ∃ M172 y174,Mm.ext w.heap.size (lentX [.box bx1 cx1 104,.stk ux1_4 3 1 xsx1_4]) M66 M172∧St w (lentX [.box bx1 cx1 104,.stk ux1_4 3 1 xsx1_4]) M172 [.box bx1 cs68 104,.stk v70 3 1 xs71] w'∧T' 0 = .pointer (some ⟨bx1,0,none⟩)∧T' 1 = .int .i64 x4∧T' 6 = .int .i64 y174∧visit_l2 fu x4 d69 l72 k176 y174=some r) fu ?_ ?_ ?_
  exact ⟨M66,(IntKind.wrap .i64 ((l72.length:Int)-1)),(Qg _ _ _),hS,hT67_0,hT67_1,rfl,hz⟩
  rintro T' w' ⟨_,_,_,_,_,_,_,hz⟩
  rw [visit_l2] at hz
  cases hz
  intro k176
  rintro T173 w171 ⟨M172,y174,hx178,hS,hT173_0,hT173_1,hT173_6,hz⟩
  replace hb68:=Rep.mono hx178.1 hb68
  replace hk73:=Zm hx178.1 hk73
  replace hE:=Qc hE hx178
  have hF177:=hx178
  rw [visit_l2] at hz
  obtain ⟨rec175,hrec175⟩ : ∃ f,f=visit_l2 fu x4 d69 l72 k176:=⟨_,rfl⟩
  rw [← hrec175] at hz
  refine Qh <|Qh <|Qi <|Qd (Qe (.pointer (some ⟨bx1,0,none⟩)) hT173_0) <|Qd (Q6 rfl) <|Qd (Qp Ky rfl) <|Qd (Ql v70 Z2 rfl (hS.bvB 0 rfl) hp74) <|Qd (Qe (.int .i64 y174) hT173_6) ?_
  obtain ⟨x180,hx179,hz⟩:=Qb hz
  obtain ⟨b179,o179,c179,hv179,hi179,hj179,hM179,hr179⟩:=skv_at (hS.skv (j:=1) rfl hk73) hx179
  replace hr179:rep _ (sl xs71 (o179+Int.toNat y174*1) 1) x180:=hr179
  refine Qd (Yq V6 rfl hv179 rfl hi179 hj179) <|Qd (Ql (.int .i64 x180) Z5 rfl (hS.bvK (j:=1) rfl hM179) hr179) <|Qd (Qe (.int .i64 x4) hT173_1) <|Qd (Yp rfl rfl) ?_
  refine Qf (Qa ?_)
  refine Qr rfl (fun hc181 => ?_) (fun hc181 => ?_)
  replace hz:=Qn hz hc181
  refine Qv (Qa ?_)
  refine Qy <|Qi <|Qd (Qe (.int .i64 y174) hT173_6) <|Qd (Kf rfl rfl) <|Qd (Qj (.int .i64 (IntKind.wrap .i64 (y174-1))) rfl) ?_
  refine Qf (Q7 ?_)
  refine (Qa ?_)
  exact ⟨M172,(IntKind.wrap .i64 (y174-1)),hF177,hS,hT173_0,hT173_1,rfl,(by rw [← hrec175];exact hz)⟩
  replace hz:=Qo hz hc181
  refine Zs <|Q0 <|Q0 <|Zt ?_
  refine (Qa ?_)
  refine Qh <|Qi <|Qd (Qe (.int .i64 x4) hT173_1) <|Qd (Qj (.int .i64 x4) rfl) ?_
  refine Qf (Qa ?_)
  refine Qh <|Qh <|Qi <|Qd (Qe (.pointer (some ⟨bx1,0,none⟩)) hT173_0) <|Qd (Q6 rfl) <|Qd (Qp Ky rfl) <|Qd (Ql v70 Z2 rfl (hS.bvB 0 rfl) hp74) <|Qd (Qe (.int .i64 y174) hT173_6) ?_
  obtain ⟨l183,hx182,hz⟩:=Qb hz
  obtain ⟨⟨pp182,qq182⟩,hc182,hx182⟩:=Option.map_eq_some_iff.1 hx182
  obtain ⟨a182,c182,hv182,hn182⟩:=Vj hk73
  refine Qd (Y_cutL (l:=(some y174)) (h:=none) V6 rfl hv182 (evs rfl) evn hc182 hn182) ?_
  have hk182:skv M172 v70 (cutV v70 1 pp182 qq182) xs71 l183:=(show _=l183 from hx182) ▸ skv_cut (hS.skv (j:=1) rfl hk73) hc182
  obtain ⟨a184,c184,hv184,_⟩:=skv_shape hk182
  refine Qd (Zk Qq (Vw hv184 rfl)) <|Qd (Qe (.int .i64 0) rfl) ?_
  refine Qf (Qa ?_)
  refine Qy ?_
  refine Zy (fun k191 T' w' => ∃ M186 y188 y189,Mm.ext w.heap.size (lentX [.box bx1 cx1 104,.stk ux1_4 3 1 xsx1_4]) M172 M186∧St w (lentX [.box bx1 cx1 104,.stk ux1_4 3 1 xsx1_4]) M186 [.box bx1 cs68 104,.stk v70 3 1 xs71] w'∧T' 0 = .pointer (some ⟨bx1,0,none⟩)∧T' 6 = .int .i64 y174∧T' 7 = .int .i64 y188∧T' 162=(cutV v70 1 pp182 qq182)∧T' 163 = .int .i64 (l183.length:Int)∧T' 164 = .int .i64 y189∧visit_l3 fu d69 l72 y174 l183 k191 y188 y189=some r) fu ?_ ?_ ?_
  exact ⟨M172,x4,(0:Int),(Qg _ _ _),hS,hT173_0,hT173_6,rfl,rfl,rfl,rfl,hz⟩
  rintro T' w' ⟨_,_,_,_,_,_,_,_,_,_,_,hz⟩
  rw [visit_l3] at hz
  cases hz
  intro k191
  rintro T187 w185 ⟨M186,y188,y189,hx193,hS,hT187_0,hT187_6,hT187_7,hT187_162,hT187_163,hT187_164,hz⟩
  replace hb68:=Rep.mono hx193.1 hb68
  replace hk73:=Zm hx193.1 hk73
  replace hk182:=skv.mono hx193.1 hk182
  replace hE:=Qc hE hx193
  have hF192:=hx193
  rw [visit_l3] at hz
  obtain ⟨rec190,hrec190⟩ : ∃ f,f=visit_l3 fu d69 l72 y174 l183 k191:=⟨_,rfl⟩
  rw [← hrec190] at hz
  refine Qh <|Qi <|Qd (Zq hT187_164 hT187_163) ?_
  refine Qf (Qa ?_)
  refine Qh ?_
  refine Qr rfl (fun hc194 => ?_) (fun hc194 => ?_)
  replace hz:=Qn hz hc194
  refine Qv (Qa ?_)
  refine Qh <|Qy <|Qh <|Qi ?_
  obtain ⟨x196,hx195,hz⟩:=Qb hz
  obtain ⟨b195,o195,c195,hv195,hi195,hj195,hM195,hr195⟩:=skv_at hk182 hx195
  replace hr195:rep _ (sl xs71 (o195+Int.toNat y189*1) 1) x196:=hr195
  refine Qd (Yq V6 hT187_162 hv195 hT187_164 hi195 hj195) <|Qd (Ql (.int .i64 x196) Z5 rfl (hS.bvK (j:=1) rfl hM195) hr195) <|Qd (Qj (.int .i64 x196) rfl) ?_
  refine Qf (Qa ?_)
  refine Qi <|Qd (Qe (.int .i64 y188) hT187_7) <|Qd (Qe (.int .i64 x196) rfl) <|Qd (Y_min rfl rfl) <|Qd (Qj (.int .i64 (min y188 x196)) rfl) ?_
  refine Qf (Q7 ?_)
  refine (Qa ?_)
  refine Qi <|Qd (Zz hT187_164 rfl) <|Qd (Qe (.int .i64 (IntKind.wrap .i64 (y189+1))) rfl) ?_
  refine Qf (Qa ?_)
  exact ⟨M186,(min y188 x196),(IntKind.wrap .i64 (y189+1)),hF192,hS,hT187_0,hT187_6,rfl,hT187_162,hT187_163,rfl,(by rw [← hrec190];exact hz)⟩
  replace hz:=Qo hz hc194
  refine Zs <|Q0 <|Q0 <|Zt ?_
  refine (Qa ?_)
  refine Qh <|Qh <|Qi <|Qd (Qe (.pointer (some ⟨bx1,0,none⟩)) hT187_0) <|Qd (Q6 rfl) <|Qd (Qp Ky rfl) <|Qd (Ql v70 Z2 rfl (hS.bvB 0 rfl) hp74) <|Qd (Qe (.int .i64 y174) hT187_6) ?_
  obtain ⟨l198,hx197,hz⟩:=Qb hz
  obtain ⟨⟨pp197,qq197⟩,hc197,hx197⟩:=Option.map_eq_some_iff.1 hx197
  obtain ⟨a197,c197,hv197,hn197⟩:=Vj hk73
  refine Qd (Y_cutL (l:=(some y174)) (h:=none) V6 rfl hv197 (evs rfl) evn hc197 hn197) ?_
  have hk197:skv M186 v70 (cutV v70 1 pp197 qq197) xs71 l198:=(show _=l198 from hx197) ▸ skv_cut (hS.skv (j:=1) rfl hk73) hc197
  obtain ⟨a199,c199,hv199,_⟩:=skv_shape hk197
  refine Qd (Zk Qq (Vw hv199 rfl)) <|Qd (Qe (.int .i64 0) rfl) ?_
  refine Qf (Qa ?_)
  refine Qy ?_
  refine Zy (fun k208 T' w' => ∃ M201 cs203 d204 y206,Mm.ext w.heap.size (lentX [.box bx1 cx1 104,.stk ux1_4 3 1 xsx1_4]) M186 M201∧St w (lentX [.box bx1 cx1 104,.stk ux1_4 3 1 xsx1_4]) M201 [.box bx1 cs203 104,.stk v70 3 1 xs71] w'∧rep M201 cs203 d204∧sl cs203 (0+160) 1=[v70]∧T' 0 = .pointer (some ⟨bx1,0,none⟩)∧T' 6 = .int .i64 y174∧T' 7 = .int .i64 y188∧T' 177=(cutV v70 1 pp197 qq197)∧T' 178 = .int .i64 (l198.length:Int)∧T' 179 = .int .i64 y206∧visit_l4 l72 y174 y188 l198 k208 d204 y206=some r) fu ?_ ?_ ?_
  exact ⟨M186,cs68,d69,(0:Int),(Qg _ _ _),hS,hb68,hp74,hT187_0,hT187_6,hT187_7,rfl,rfl,rfl,hz⟩
  rintro T' w' ⟨_,_,_,_,_,_,_,_,_,_,_,_,_,_,hz⟩
  rw [visit_l4] at hz
  cases hz
  intro k208
  rintro T202 w200 ⟨M201,cs203,d204,y206,hx210,hS,hb203,hp205,hT202_0,hT202_6,hT202_7,hT202_177,hT202_178,hT202_179,hz⟩
  replace hk73:=Zm hx210.1 hk73
  replace hk197:=skv.mono hx210.1 hk197
  replace hE:=Qc hE hx210
  have hF209:=hx210
  rw [visit_l4] at hz
  obtain ⟨rec207,hrec207⟩ : ∃ f,f=visit_l4 l72 y174 y188 l198 k208:=⟨_,rfl⟩
  rw [← hrec207] at hz
  refine Qh <|Qi <|Qd (Zq hT202_179 hT202_178) ?_
  refine Qf (Qa ?_)
  refine Qh ?_
  refine Qr rfl (fun hc211 => ?_) (fun hc211 => ?_)
  replace hz:=Qn hz hc211
  refine Qv (Qa ?_)
  refine Qh <|Qy <|Qh <|Qi ?_
  obtain ⟨x213,hx212,hz⟩:=Qb hz
  obtain ⟨b212,o212,c212,hv212,hi212,hj212,hM212,hr212⟩:=skv_at hk197 hx212
  replace hr212:rep _ (sl xs71 (o212+Int.toNat y206*1) 1) x213:=hr212
  refine Qd (Yq V6 hT202_177 hv212 hT202_179 hi212 hj212) <|Qd (Ql (.int .i64 x213) Z5 rfl (hS.bvK (j:=1) rfl hM212) hr212) <|Qd (Qj (.int .i64 x213) rfl) ?_
  refine Qf (Qa ?_)
  refine Yt [] [] Z6 hS fun w214 hS hG215 hR216=>wy 0 rfl (Qe (.pointer (some ⟨bx1,0,none⟩)) hT202_0) (fun _=>hR216) <|wy 1 rfl (Qe (.int .i64 x213) rfl) (fun _=>hR216) <|wy 2 rfl (Qe (.pointer (some ⟨bx1,0,none⟩)) hT202_0) (fun _=>hR216) <|wy 3 rfl (Qe (.int .i64 x213) rfl) (fun _=>hR216) <|wy 4 rfl (Qe (.int .i64 y188) hT202_7) (fun _=>hR216) <|wy 5 rfl (Q6 rfl) (fun _=>hR216) <|wy 6 rfl (Qp fa104_5 rfl) (fun _=>hR216) ?_
  obtain ⟨u217,hx218,hz⟩:=Qb hz
  obtain ⟨hx218a,hx218b⟩:=Qt hx218
  refine wy 7 rfl (Za V1 rfl rfl hx218a hx218b) (fun _=>hR216) <|wy 9 rfl (Q6 rfl) (fun _=>hR216) <|wy 10 rfl (Qp fa104_3 rfl) (fun _=>hR216) ?_
  obtain ⟨x221,hx222,hz⟩:=Qb hz
  obtain ⟨a223,hx224,hz⟩:=Qb hz
  obtain ⟨d225,hd220,hz⟩:=Qb hz
  have hq227:=(Zn hx222)
  refine w1 8 rfl (Q8 0 1 hS rfl hb203 rfl rfl (ri y188:rep M201 _ _) rfl rfl (GSearch.u5 (rr hb203) (vu (k:=1) rfl rfl (Kj (rr hb203)) (Lf (vp (k:=1) rfl rfl (Kj (rr hb203)) hx222) (ri y188:rep M201 _ _)) hx224)) hd220 ?_)
  intro cs220 w219 hb220 ha220 hs220 hS
  have hp226:=(ha220 (by omega)).trans hp205
  refine Yr hS hG215 fun hR228 => ?_
  obtain ⟨u229,hx230,hz⟩:=Qb hz
  obtain ⟨hx230a,hx230b⟩:=Qt hx230
  refine wy 11 rfl (Za Jm rfl rfl hx230a hx230b) (fun _=>hR228) ?_
  obtain ⟨x233,hx234,hz⟩:=Qb hz
  obtain ⟨a235,hx236,hz⟩:=Qb hz
  obtain ⟨d237,hd232,hz⟩:=Qb hz
  have hq239:=(Zn hx234)
  refine w1 12 rfl (Q8 0 1 hS rfl hb220 rfl rfl (rb false:rep M201 _ _) rfl rfl (GSearch.u3 (rr hb220) (vu (k:=1) rfl rfl (Kz (rr hb220)) (Lf (vp (k:=1) rfl rfl (Kz (rr hb220)) hx234) (rb false:rep M201 _ _)) hx236)) hd232 ?_)
  intro cs232 w231 hb232 ha232 hs232 hS
  have hp238:=(ha232 (by omega)).trans hp226
  refine Yr hS hG215 fun hR240 => ?_
  refine wd (Q7 ?_)
  refine (Qa ?_)
  refine Qi <|Qd (Zz hT202_179 rfl) <|Qd (Qe (.int .i64 (IntKind.wrap .i64 (y206+1))) rfl) ?_
  refine Qf (Qa ?_)
  exact ⟨M201,cs232,d237,(IntKind.wrap .i64 (y206+1)),hF209,hS,hb232,hp238,hT202_0,hT202_6,hT202_7,hT202_177,hT202_178,rfl,(by rw [← hrec207];exact hz)⟩
  replace hz:=Qo hz hc211
  refine Zs <|Q0 <|Q0 <|Zt ?_
  refine (Qa ?_)
  refine Qi <|Qd (Qe (.pointer (some ⟨bx1,0,none⟩)) hT202_0) <|Qd (Qe (.pointer (some ⟨bx1,0,none⟩)) hT202_0) <|Qd (Q6 rfl) <|Qd (Qp Ky rfl) <|Qd (Ql v70 Z2 rfl (hS.bvB 0 rfl) hp205) <|Qd (Qe (.int .i64 y174) hT202_6) ?_
  obtain ⟨l242,hx241,hz⟩:=Qb hz
  obtain ⟨⟨pp241,qq241⟩,hc241,hx241⟩:=Option.map_eq_some_iff.1 hx241
  obtain ⟨a241,c241,hv241,hn241⟩:=Vj hk73
  refine Qd (Y_cutL (l:=none) (h:=(some y174)) V6 rfl hv241 evn (evs rfl) hc241 hn241) ?_
  obtain ⟨hk241,hS⟩:=hS.pop (j:=1) rfl hk73 hc241
  rw [show (List.drop pp241 (List.take qq241 l72))=l242 from hx241] at hk241
  replace hk241:skr M201 (cutV v70 1 pp241 qq241) (List.take (qq241*1) xs71) l242:=hk241
  refine Qd (Q6 rfl) <|Qd (Qp Ky rfl) ?_
  obtain ⟨d245,hd244,hz⟩:=Qb hz
  refine Qu (Q8 0 1 hS rfl hb203 rfl rfl (Ki hk241) (skr_cells hk241) rfl (GSearch.u4 (rr hb203) (Lf (GSearch.p4 (rr hb203)) (Ki hk241))) hd244 ?_)
  intro cs244 w243 hb244 ha244 hs244 hS
  have hp246:=hs244
  cases hz
  exact Qf (RetQ_ret (R_t0 rfl  ⟨_,M201,_,rfl,hE,(hS.sel (H':=[.box bx1 cs244 104,.stk (cutV v70 1 pp241 qq241) 3 1 (List.take (qq241*1) xs71)]) [0,1] (by decide) rfl),cs244,(cutV v70 1 pp241 qq241),(List.take (qq241*1) xs71),rfl,rfl,hb244,hk241,hp246⟩))
theorem visit_ok {M:Mm} {w:World} {bx1:Nat} {cx1:List Value} {ux1_4:Value} {xsx1_4:List Value} {x1:GSearch} {l3:List Int} {x4:Int} {fu:Nat} {r:GSearch × (List Int)} (hS:St w (lentX [.box bx1 cx1 104,.stk ux1_4 3 1 xsx1_4]) M [.box bx1 cx1 104,.stk ux1_4 3 1 xsx1_4] w) (hcx1:rep M cx1 x1) (hkx1_4:skr M ux1_4 xsx1_4 l3) (hpx1_4:sl cx1 160 1=[ux1_4]) (hz:visitD fu x1 l3 x4=some r) :
    Calls Try.prog 56 #[.pointer (some ⟨bx1,0,none⟩),.int .i64 x4] w (GivesL M w [.box bx1 cx1 104,.stk ux1_4 3 1 xsx1_4] (fun M' u L' => ∃ k0 u1 x1,u = .tuple #[]∧L'=[.box bx1 k0 104,.stk u1 3 1 x1]∧rep M' k0 r.1∧skr M' u1 x1 r.2∧sl k0 160 1=[u1])) :=
  visit_rok fu fu hS hcx1 hkx1_4 hpx1_4 hz
def free_j1 (y9:Int) (rec10:Int→Option Bool):Option Bool :=
 rec10 (IntKind.wrap .i64 (y9+1))
def free_j3 (y33:Int) (rec34:Int→Option Bool):Option Bool :=
 rec34 (IntKind.wrap .i64 (y33+1))
def free_j4 (y33:Int) (rec34:Int→Option Bool) (c49:Bool):Option Bool :=
 (bif c49 then
 some false
 else
 free_j3 y33 rec34)
def free_l2 (x1:GSearch) (x2:Int) (x3:Vector Bool 32) (y9:Int) (rec10:Int→Option Bool) (x26:List Int):Nat→Int→Option Bool
 | 0,_=>none
 | n+1,y33 =>
 (bif decide (y33<(x26.length:Int)) then
 (idx x26 y33).bind fun x45 =>
 (bif decide (x45≥0) then
 (bif decide (x45<32) then
 (inR x45 32).bind fun _ =>
 (idxV x1.ring x45).bind fun x57 =>
 (bif x57 != x2 then
 (inR x45 32).bind fun _ =>
 (idxV x3 x45).bind fun x62 =>
 free_j4 y33 (free_l2 x1 x2 x3 y9 rec10 x26 n) (!x62)
 else
 free_j4 y33 (free_l2 x1 x2 x3 y9 rec10 x26 n) false)
 else
 free_j4 y33 (free_l2 x1 x2 x3 y9 rec10 x26 n) false)
 else
 free_j4 y33 (free_l2 x1 x2 x3 y9 rec10 x26 n) false)
 else
 free_j1 y9 rec10)
def free_j2 (fu:Nat) (x1:GSearch) (x2:Int) (x3:Vector Bool 32) (y9:Int) (rec10:Int→Option Bool):Option Bool :=
 (inR y9 32).bind fun _ =>
 (idxV x1.g.deps y9).bind fun x26 =>
 free_l2 x1 x2 x3 y9 rec10 x26 fu 0
def free_j5 (fu:Nat) (x1:GSearch) (x2:Int) (x3:Vector Bool 32) (y9:Int) (rec10:Int→Option Bool) (c68:Bool):Option Bool :=
 (bif c68 then
 free_j1 y9 rec10
 else
 free_j2 fu x1 x2 x3 y9 rec10)
def free_l1 (fu:Nat) (x1:GSearch) (x2:Int) (x3:Vector Bool 32):Nat→Int→Option Bool
 | 0,_=>none
 | n+1,y9 =>
 (bif decide (y9<32) then
 (inR y9 32).bind fun _ =>
 (idxV x1.mark_ y9).bind fun x74 =>
 (bif x74==0 then
 free_j5 fu x1 x2 x3 y9 (free_l1 fu x1 x2 x3 n) true
 else
 (inR y9 32).bind fun _ =>
 (idxV x1.ring y9).bind fun x79 =>
 free_j5 fu x1 x2 x3 y9 (free_l1 fu x1 x2 x3 n) (x79 != x2))
 else
 some true)
def freeD (fu:Nat) (x1:GSearch) (x2:Int) (x3:Vector Bool 32):Option Bool :=
 free_l1 fu x1 x2 x3 fu 0
set_option maxRecDepth 100000 in
set_option maxHeartbeats 4000000 in
theorem free_ok {M:Mm} {w:World} {bx1:Nat} {cx1:List Value} {cx3:List Value} {x1:GSearch} {x2:Int} {x3:Vector Bool 32} {fu:Nat} {r:Bool} (hS:St w (lentX [.box bx1 cx1 104]) M [.box bx1 cx1 104] w) (hcx1:rep M cx1 x1) (hcx3:rep M cx3 x3) (hz:freeD fu x1 x2 x3=some r) :
    Calls Try.prog 57 #[.pointer (some ⟨bx1,0,none⟩),.int .i64 x2,.agg cx3.toArray] w (GivesL M w [.box bx1 cx1 104] (fun M' u L'=>u = .bool r∧L'=[.box bx1 cx1 104])):=by
 refine Zh Try.func57 rfl 66 rfl rfl (by kernel_rfl) fun T hT => ?_
 have hT_0:T 0 = .pointer (some ⟨bx1,0,none⟩):=hT 0
 have hT_1:T 1 = .int .i64 x2:=hT 1
 have hT_2:T 2 = .agg cx3.toArray:=hT 2
 clear hT
 have hE:=Qg w.heap.size (lentX [.box bx1 cx1 104]) M
 rw [freeD] at hz
 refine Qh <|Qi ?_
 refine Qu (Yo (v := .agg cx3.toArray) (cs:=cx3) hT_2 rfl hS ?_)
 intro b5 w4 hb5 hS
 refine Qd (Qj (.bool false) rfl) ?_
 refine Qf (Qa ?_)
 refine Qh <|Qh <|Qi <|Qd (Qe (.int .i64 0) rfl) ?_
 refine Qf (Qa ?_)
 refine Qy ?_
 refine Zy (fun k11 T' w' => ∃ M7 y9,Mm.ext w.heap.size (lentX [.box bx1 cx1 104]) M M7∧St w (lentX [.box bx1 cx1 104]) M7 [.box b5 cx3 58,.box bx1 cx1 104] w'∧T' 0 = .pointer (some ⟨bx1,0,none⟩)∧T' 1 = .int .i64 x2∧T' 5 = .pointer (some ⟨b5,0,none⟩)∧T' 10 = .int .i64 y9∧free_l1 fu x1 x2 x3 k11 y9=some r) fu ?_ ?_ ?_
 exact ⟨M,(0:Int),(Qg _ _ _),hS,hT_0,hT_1,rfl,rfl,hz⟩
 rintro T' w' ⟨_,_,_,_,_,_,_,_,hz⟩
 rw [free_l1] at hz
 cases hz
 intro k11
 rintro T8 w6 ⟨M7,y9,hx13,hS,hT8_0,hT8_1,hT8_5,hT8_10,hz⟩
 replace hcx1:=Rep.mono hx13.1 hcx1
 replace hcx3:=Rep.mono hx13.1 hcx3
 replace hE:=Qc hE hx13
 have hF12:=hx13
 rw [free_l1] at hz
 obtain ⟨rec10,hrec10⟩ : ∃ f,f=free_l1 fu x1 x2 x3 k11:=⟨_,rfl⟩
 rw [← hrec10] at hz
 refine Qh <|Qi <|Qd (Zq hT8_10 rfl) ?_
 refine Qf (Qa ?_)
 refine Qh ?_
 refine Qr rfl (fun hc14 => ?_) (fun hc14 => ?_)
 replace hz:=Qn hz hc14
 refine Qv (Qa ?_)
 refine Qz (fun T' w' => ∃ M16,Mm.ext w.heap.size (lentX [.box bx1 cx1 104]) M7 M16∧St w (lentX [.box bx1 cx1 104]) M16 [.box b5 cx3 58,.box bx1 cx1 104] w'∧T' 0 = .pointer (some ⟨bx1,0,none⟩)∧T' 1 = .int .i64 x2∧T' 5 = .pointer (some ⟨b5,0,none⟩)∧T' 10 = .int .i64 y9∧free_j1 y9 rec10=some r) ?_ ?_
 have hF19:=Qg w.heap.size (lentX [.box bx1 cx1 104]) M7
 refine Qy <|Qh <|Qi <|Qd (Qe (.int .i64 y9) hT8_10) <|Qd (Qj (.int .i64 y9) rfl) ?_
 refine Qf (Qa ?_)
 refine Qz (fun T' w' => ∃ M21,Mm.ext w.heap.size (lentX [.box bx1 cx1 104]) M7 M21∧St w (lentX [.box bx1 cx1 104]) M21 [.box b5 cx3 58,.box bx1 cx1 104] w'∧T' 0 = .pointer (some ⟨bx1,0,none⟩)∧T' 1 = .int .i64 x2∧T' 5 = .pointer (some ⟨b5,0,none⟩)∧T' 7 = .int .i64 y9∧T' 10 = .int .i64 y9∧free_j2 fu x1 x2 x3 y9 rec10=some r) ?_ ?_
 have hF64:=Qg w.heap.size (lentX [.box bx1 cx1 104]) M7
 refine Qz (fun T' w' => ∃ M66 c68,Mm.ext w.heap.size (lentX [.box bx1 cx1 104]) M7 M66∧St w (lentX [.box bx1 cx1 104]) M66 [.box b5 cx3 58,.box bx1 cx1 104] w'∧T' 0 = .pointer (some ⟨bx1,0,none⟩)∧T' 1 = .int .i64 x2∧T' 5 = .pointer (some ⟨b5,0,none⟩)∧T' 7 = .int .i64 y9∧T' 10 = .int .i64 y9∧T' 29 = .bool c68∧free_j5 fu x1 x2 x3 y9 rec10 c68=some r) ?_ ?_
 have hF71:=Qg w.heap.size (lentX [.box bx1 cx1 104]) M7
 refine Qi <|Qd (Qe (.pointer (some ⟨bx1,0,none⟩)) hT8_0) <|Qd (Qe (.int .i64 y9) rfl) <|Qd (Q6 rfl) <|Qd (Qp Jd rfl) ?_
 obtain ⟨u72,hx73,hz⟩:=Qb hz
 obtain ⟨hx73a,hx73b⟩:=Qt hx73
 refine Qd (Za V1 rfl rfl hx73a hx73b) ?_
 obtain ⟨x74,hx75,hz⟩:=Qb hz
 refine Qd (Ql (.int .i64 x74) Z5 rfl (hS.bvB 1 rfl) (vp (k:=1) rfl rfl (Vs (rr hcx1)) hx75)) <|Qd (Yc rfl rfl) <|Qd (Qe (.bool (x74==0)) rfl) ?_
 rcases ic hz with ⟨hc76,hz⟩ | ⟨hc76,hz⟩<;>rw [hc76]
 refine Q2 9 rfl ?_
 refine Qf (Qa ?_)
 exact ⟨M7,true,hF71,hS,hT8_0,hT8_1,hT8_5,rfl,hT8_10,rfl,hz⟩
 refine Qk rfl rfl (Qe (.pointer (some ⟨bx1,0,none⟩)) hT8_0) <|Qk rfl rfl (Qe (.int .i64 y9) rfl) <|Qk rfl rfl (Q6 rfl) <|Qk rfl rfl (Qp fa104_5 rfl) ?_
 obtain ⟨u77,hx78,hz⟩:=Qb hz
 obtain ⟨hx78a,hx78b⟩:=Qt hx78
 refine Qk rfl rfl (Za V1 rfl rfl hx78a hx78b) ?_
 obtain ⟨x79,hx80,hz⟩:=Qb hz
 refine Qk rfl rfl (Ql (.int .i64 x79) Z5 rfl (hS.bvB 1 rfl) (vp (k:=1) rfl rfl (Kj (rr hcx1)) hx80)) <|Qk rfl rfl (Qe (.int .i64 x2) hT8_1) <|Qk rfl rfl (Yp rfl rfl) <|Qd (Ze (.bool (x79 != x2)) rfl rfl) ?_
 refine Qf (Qa ?_)
 exact ⟨M7,(x79 != x2),hF71,hS,hT8_0,hT8_1,hT8_5,rfl,hT8_10,rfl,hz⟩
 rintro T67 w65 ⟨M66,c68,hx69,hS,hT67_0,hT67_1,hT67_5,hT67_7,hT67_10,hT67_29,hz⟩
 replace hF19:=Qc hF19 hx69
 replace hF64:=Qc hF64 hx69
 rw [free_j5] at hz
 refine Qr hT67_29 (fun hc70 => ?_) (fun hc70 => ?_)
 replace hz:=Qn hz hc70
 refine Zs <|Q0 <|Zt ?_
 refine (Qa ?_)
 exact ⟨M66,hF19,hS,hT67_0,hT67_1,hT67_5,hT67_10,hz⟩
 replace hz:=Qo hz hc70
 refine Qv (Qa ?_)
 exact ⟨M66,hF64,hS,hT67_0,hT67_1,hT67_5,hT67_7,hT67_10,hz⟩
 rintro T22 w20 ⟨M21,hx23,hS,hT22_0,hT22_1,hT22_5,hT22_7,hT22_10,hz⟩
 replace hcx1:=Rep.mono hx23.1 hcx1
 replace hcx3:=Rep.mono hx23.1 hcx3
 replace hE:=Qc hE hx23
 replace hF19:=Qc hF19 hx23
 rw [free_j2] at hz
 refine Qh <|Qi <|Qd (Qe (.pointer (some ⟨bx1,0,none⟩)) hT22_0) <|Qd (Qe (.int .i64 y9) hT22_7) <|Qd (Q6 rfl) <|Qd (Qp fa104_0 rfl) <|Qd (Qp fa61_1 rfl) ?_
 obtain ⟨u24,hx25,hz⟩:=Qb hz
 obtain ⟨hx25a,hx25b⟩:=Qt hx25
 refine Qd (Za ia59 rfl rfl hx25a hx25b) ?_
 obtain ⟨x26,hx27,hz⟩:=Qb hz
 obtain ⟨v28,ev28,hv28⟩:=(vp (k:=1) rfl rfl (Jc (GSearch.p0 (rr hcx1))) hx27)
 refine Qd (Ql v28 Z2 rfl (hS.bvB 1 rfl) ev28) ?_
 obtain ⟨a29,c29,hv29,_⟩:=Q3 hv28
 refine Qd (Zk Qq (Vw hv29 rfl)) <|Qd (Qe (.int .i64 0) rfl) ?_
 refine Qf (Qa ?_)
 refine Qy ?_
 refine Zy (fun k35 T' w' => ∃ M31 y33,Mm.ext w.heap.size (lentX [.box bx1 cx1 104]) M21 M31∧St w (lentX [.box bx1 cx1 104]) M31 [.box b5 cx3 58,.box bx1 cx1 104] w'∧T' 0 = .pointer (some ⟨bx1,0,none⟩)∧T' 1 = .int .i64 x2∧T' 5 = .pointer (some ⟨b5,0,none⟩)∧T' 10 = .int .i64 y9∧T' 36=v28∧T' 37 = .int .i64 (x26.length:Int)∧T' 38 = .int .i64 y33∧free_l2 x1 x2 x3 y9 rec10 x26 k35 y33=some r) fu ?_ ?_ ?_
 exact ⟨M21,(0:Int),(Qg _ _ _),hS,hT22_0,hT22_1,hT22_5,hT22_10,rfl,rfl,rfl,hz⟩
 rintro T' w' ⟨_,_,_,_,_,_,_,_,_,_,_,hz⟩
 rw [free_l2] at hz
 cases hz
 intro k35
 rintro T32 w30 ⟨M31,y33,hx37,hS,hT32_0,hT32_1,hT32_5,hT32_10,hT32_36,hT32_37,hT32_38,hz⟩
 replace hcx1:=Rep.mono hx37.1 hcx1
 replace hcx3:=Rep.mono hx37.1 hcx3
 replace hv28:=Qw hx37.1 hv28
 replace hE:=Qc hE hx37
 replace hF19:=Qc hF19 hx37
 have hF36:=hx37
 rw [free_l2] at hz
 obtain ⟨rec34,hrec34⟩ : ∃ f,f=free_l2 x1 x2 x3 y9 rec10 x26 k35:=⟨_,rfl⟩
 rw [← hrec34] at hz
 refine Qh <|Qi <|Qd (Zq hT32_38 hT32_37) ?_
 refine Qf (Qa ?_)
 refine Qh ?_
 refine Qr rfl (fun hc38 => ?_) (fun hc38 => ?_)
 replace hz:=Qn hz hc38
 refine Qv (Qa ?_)
 refine Qz (fun T' w' => ∃ M40,Mm.ext w.heap.size (lentX [.box bx1 cx1 104]) M31 M40∧St w (lentX [.box bx1 cx1 104]) M40 [.box b5 cx3 58,.box bx1 cx1 104] w'∧T' 0 = .pointer (some ⟨bx1,0,none⟩)∧T' 1 = .int .i64 x2∧T' 5 = .pointer (some ⟨b5,0,none⟩)∧T' 10 = .int .i64 y9∧T' 36=v28∧T' 37 = .int .i64 (x26.length:Int)∧T' 38 = .int .i64 y33∧free_j3 y33 rec34=some r) ?_ ?_
 have hF43:=Qg w.heap.size (lentX [.box bx1 cx1 104]) M31
 refine Qy <|Qh <|Qi ?_
 obtain ⟨x45,hx44,hz⟩:=Qb hz
 obtain ⟨b44,o44,c44,p44,hv44,hi44,hj44,hM44,hr44⟩:=Yd hv28 hx44
 replace hr44:rep _ (sl p44 (o44+Int.toNat y33*1) 1) x45:=hr44
 refine Qd (Yq V6 hT32_36 hv44 hT32_38 hi44 hj44) <|Qd (Ql (.int .i64 x45) Z5 rfl (hS.bvM hM44) hr44) <|Qd (Qj (.int .i64 x45) rfl) ?_
 refine Qf (Qa ?_)
 refine Qz (fun T' w' => ∃ M47 c49,Mm.ext w.heap.size (lentX [.box bx1 cx1 104]) M31 M47∧St w (lentX [.box bx1 cx1 104]) M47 [.box b5 cx3 58,.box bx1 cx1 104] w'∧T' 0 = .pointer (some ⟨bx1,0,none⟩)∧T' 1 = .int .i64 x2∧T' 5 = .pointer (some ⟨b5,0,none⟩)∧T' 10 = .int .i64 y9∧T' 36=v28∧T' 37 = .int .i64 (x26.length:Int)∧T' 38 = .int .i64 y33∧T' 63 = .bool c49∧free_j4 y33 rec34 c49=some r) ?_ ?_
 have hF52:=Qg w.heap.size (lentX [.box bx1 cx1 104]) M31
 refine Qi <|Qd (Qe (.int .i64 x45) rfl) <|Qd (Va rfl rfl) <|Qd (Qe (.bool (decide (x45≥0))) rfl) ?_
 rcases ic hz with ⟨hc53,hz⟩ | ⟨hc53,hz⟩<;>rw [hc53]
 refine Qk rfl rfl (Qe (.int .i64 x45) rfl) <|Qk rfl rfl (Zq rfl rfl) <|Q2 2 rfl ?_
 rcases ic hz with ⟨hc54,hz⟩ | ⟨hc54,hz⟩<;>rw [hc54]
 refine Qk rfl rfl (Qe (.pointer (some ⟨bx1,0,none⟩)) hT32_0) <|Qk rfl rfl (Qe (.int .i64 x45) rfl) <|Qk rfl rfl (Q6 rfl) <|Qk rfl rfl (Qp fa104_5 rfl) ?_
 obtain ⟨u55,hx56,hz⟩:=Qb hz
 obtain ⟨hx56a,hx56b⟩:=Qt hx56
 refine Qk rfl rfl (Za V1 rfl rfl hx56a hx56b) ?_
 obtain ⟨x57,hx58,hz⟩:=Qb hz
 refine Qk rfl rfl (Ql (.int .i64 x57) Z5 rfl (hS.bvB 1 rfl) (vp (k:=1) rfl rfl (Kj (rr hcx1)) hx58)) <|Qk rfl rfl (Qe (.int .i64 x2) hT32_1) <|Qk rfl rfl (Yp rfl rfl) <|Q2 2 rfl ?_
 rcases ic hz with ⟨hc59,hz⟩ | ⟨hc59,hz⟩<;>rw [hc59]
 refine Qk rfl rfl (Qe (.int .i64 x45) rfl) ?_
 obtain ⟨u60,hx61,hz⟩:=Qb hz
 obtain ⟨hx61a,hx61b⟩:=Qt hx61
 refine Qk rfl rfl (Za Jm hT32_5 rfl hx61a hx61b) ?_
 obtain ⟨x62,hx63,hz⟩:=Qb hz
 refine Qk rfl rfl (Ql (.bool x62) Jk rfl (hS.bvB 0 rfl) (vp (k:=1) rfl rfl (rr hcx3) hx63)) <|Qk rfl rfl (Ye rfl) <|Qd (Zp (.bool (!x62)) rfl rfl) ?_
 refine Qf (Qa ?_)
 exact ⟨M31,(!x62),hF52,hS,hT32_0,hT32_1,hT32_5,hT32_10,hT32_36,hT32_37,hT32_38,rfl,hz⟩
 refine Q2 5 rfl ?_
 refine Qf (Qa ?_)
 exact ⟨M31,false,hF52,hS,hT32_0,hT32_1,hT32_5,hT32_10,hT32_36,hT32_37,hT32_38,rfl,hz⟩
 refine Q2 15 rfl ?_
 refine Qf (Qa ?_)
 exact ⟨M31,false,hF52,hS,hT32_0,hT32_1,hT32_5,hT32_10,hT32_36,hT32_37,hT32_38,rfl,hz⟩
 refine Q2 19 rfl ?_
 refine Qf (Qa ?_)
 exact ⟨M31,false,hF52,hS,hT32_0,hT32_1,hT32_5,hT32_10,hT32_36,hT32_37,hT32_38,rfl,hz⟩
 rintro T48 w46 ⟨M47,c49,hx50,hS,hT48_0,hT48_1,hT48_5,hT48_10,hT48_36,hT48_37,hT48_38,hT48_63,hz⟩
 replace hE:=Qc hE hx50
 replace hF43:=Qc hF43 hx50
 rw [free_j4] at hz
 refine Qr hT48_63 (fun hc51 => ?_) (fun hc51 => ?_)
 replace hz:=Qn hz hc51
 refine Qh <|Qi <|Qd (Qj (.bool false) rfl) ?_
 refine Qf (Qa ?_)
 cases hz
 exact Q4 (Zi (Qs (Qs (Zi (Zi (Qs (Qs (Zi (Qs (Yj rfl rfl ⟨_,M47,_,rfl,hE,(hS.sel (H':=[.box bx1 cx1 104]) [1] (by decide) rfl),rfl,rfl⟩))))))))))
 replace hz:=Qo hz hc51
 refine Qv (Q7 ?_)
 refine (Qa ?_)
 exact ⟨M47,hF43,hS,hT48_0,hT48_1,hT48_5,hT48_10,hT48_36,hT48_37,hT48_38,hz⟩
 rintro T41 w39 ⟨M40,hx42,hS,hT41_0,hT41_1,hT41_5,hT41_10,hT41_36,hT41_37,hT41_38,hz⟩
 replace hF36:=Qc hF36 hx42
 rw [free_j3] at hz
 refine Qi <|Qd (Zz hT41_38 rfl) <|Qd (Qe (.int .i64 (IntKind.wrap .i64 (y33+1))) rfl) ?_
 refine Qf (Qa ?_)
 exact ⟨M40,(IntKind.wrap .i64 (y33+1)),hF36,hS,hT41_0,hT41_1,hT41_5,hT41_10,hT41_36,hT41_37,rfl,(by rw [← hrec34];exact hz)⟩
 replace hz:=Qo hz hc38
 refine Zs <|Q0 <|Q0 <|Zt ?_
 refine (Q7 ?_)
 refine (Qa ?_)
 exact ⟨M31,hF19,hS,hT32_0,hT32_1,hT32_5,hT32_10,hz⟩
 rintro T17 w15 ⟨M16,hx18,hS,hT17_0,hT17_1,hT17_5,hT17_10,hz⟩
 replace hF12:=Qc hF12 hx18
 rw [free_j1] at hz
 refine Qi <|Qd (Zz hT17_10 rfl) <|Qd (Qe (.int .i64 (IntKind.wrap .i64 (y9+1))) rfl) ?_
 refine Qf (Qa ?_)
 exact ⟨M16,(IntKind.wrap .i64 (y9+1)),hF12,hS,hT17_0,hT17_1,hT17_5,rfl,(by rw [← hrec10];exact hz)⟩
 replace hz:=Qo hz hc14
 refine Zs <|Q0 <|Q0 <|Zt ?_
 refine (Qa ?_)
 refine Qh <|Qi <|Qd (Qj (.bool true) rfl) ?_
 refine Qf (Qa ?_)
 cases hz
 exact Q4 (Yj rfl rfl ⟨_,M7,_,rfl,hE,(hS.sel (H':=[.box bx1 cx1 104]) [1] (by decide) rfl),rfl,rfl⟩)
def gorder_j2 (y54:Int) (rec55:(Vector Bool 32)→(List Int)→Int→Option (List Int)) (d64:Vector Bool 32) (l65:List Int):Option (List Int) :=
 rec55 d64 l65 (IntKind.wrap .i64 (y54+1))
def gorder_j3 (d51:Vector Bool 32) (l52:List Int) (y54:Int) (rec55:(Vector Bool 32)→(List Int)→Int→Option (List Int)) (c72:Bool):Option (List Int) :=
 (bif c72 then
 (inR y54 32).bind fun _ =>
 (idxV d51 y54).bind fun x79 =>
 (setV d51 y54 true).bind fun a81 =>
 (some a81).bind fun d83 =>
 (app l52 ([y54]:List Int)).bind fun l88 =>
 gorder_j2 y54 rec55 d83 l88
 else
 gorder_j2 y54 rec55 d51 l52)
def gorder_l2 (rec34:(Vector Bool 32)→GSearch→(List Int)→Option (List Int)) (d42:GSearch) (y44:Int):Nat→(Vector Bool 32)→(List Int)→Int→Option (List Int)
 | 0,_,_,_=>none
 | n+1,d51,l52,y54 =>
 (bif decide (y54<32) then
 (inR y54 32).bind fun _ =>
 (idxV d42.mark_ y54).bind fun x92 =>
 (bif decide (x92>0) then
 (inR y54 32).bind fun _ =>
 (idxV d42.ring y54).bind fun x97 =>
 gorder_j3 d51 l52 y54 (gorder_l2 rec34 d42 y44 n) (x97==y44)
 else
 gorder_j3 d51 l52 y54 (gorder_l2 rec34 d42 y44 n) false)
 else
 rec34 d51 d42 l52)
def gorder_j1 (fu:Nat) (d28:Vector Bool 32) (l32:List Int) (rec34:(Vector Bool 32)→GSearch→(List Int)→Option (List Int)) (d42:GSearch) (y44:Int):Option (List Int) :=
 (bif decide (y44<0) then
 some l32
 else
 gorder_l2 rec34 d42 y44 fu d28 l32 0)
def gorder_j4 (y107:Int) (rec108:GSearch→Int→Int→Option (List Int)) (d117:GSearch) (y119:Int):Option (List Int) :=
 rec108 d117 y119 (IntKind.wrap .i64 (y107+1))
def gorder_j5 (fu:Nat) (d28:Vector Bool 32) (l32:List Int) (rec34:(Vector Bool 32)→GSearch→(List Int)→Option (List Int)) (y106:Int) (y107:Int) (rec108:GSearch→Int→Int→Option (List Int)) (d126:GSearch) (c128:Bool):Option (List Int) :=
 (bif c128 then
 gorder_j1 fu d28 l32 rec34 d126 y107
 else
 gorder_j4 y107 rec108 d126 y106)
def gorder_l3 (fu:Nat) (d28:Vector Bool 32) (l32:List Int) (rec34:(Vector Bool 32)→GSearch→(List Int)→Option (List Int)):Nat→GSearch→Int→Int→Option (List Int)
 | 0,_,_,_=>none
 | n+1,d104,y106,y107 =>
 (bif decide (y107<32) then
 (inR y107 32).bind fun _ =>
 (idxV d104.mark_ y107).bind fun x134 =>
 (bif decide (x134>0) then
 (inR y107 32).bind fun _ =>
 (idxV d28 y107).bind fun x139 =>
 (bif !x139 then
 (inR y107 32).bind fun _ =>
 (idxV d104.ring y107).bind fun x144 =>
 (bif x144==y107 then
 (freeD fu d104 y107 d28).bind fun r150 =>
 gorder_j5 fu d28 l32 rec34 y106 y107 (gorder_l3 fu d28 l32 rec34 n) d104 r150
 else
 gorder_j5 fu d28 l32 rec34 y106 y107 (gorder_l3 fu d28 l32 rec34 n) d104 false)
 else
 gorder_j5 fu d28 l32 rec34 y106 y107 (gorder_l3 fu d28 l32 rec34 n) d104 false)
 else
 gorder_j5 fu d28 l32 rec34 y106 y107 (gorder_l3 fu d28 l32 rec34 n) d104 false)
 else
 gorder_j1 fu d28 l32 rec34 d104 y106)
def gorder_l1 (fu:Nat):Nat→(Vector Bool 32)→GSearch→(List Int)→Option (List Int)
 | 0,_,_,_=>none
 | n+1,d28,d30,l32 =>
 gorder_l3 fu d28 l32 (gorder_l1 fu n) fu d30 (-1) 0
def gorderD (fu:Nat) (x1:GGraph) (x2:Int):Option (List Int) :=
 (readyD fu x1 x2).bind fun r8 =>
 (bif !r8 then
 some []
 else
 (some ({ g:=x1,mark_:=Zr.zd,low:=Zr.zd,on_:=Zr.zd,stack:=Zr.zd,ring:=Zr.zd,next:=Zr.zd }:GSearch)).bind fun d12 =>
 (visitD fu d12 ([]:List Int) x2).bind fun r20 =>
 gorder_l1 fu fu (Zr.zd:Vector Bool 32) r20.1 ([]:List Int))
set_option maxRecDepth 100000 in
set_option maxHeartbeats 4000000 in
theorem gorder_ok {M:Mm} {w:World} {cx1:List Value} {x1:GGraph} {x2:Int} {fu:Nat} {r:(List Int)} (hA:Agree M w) (hcx1:rep M cx1 x1) (hz:gorderD fu x1 x2=some r) :
    Calls Try.prog 26 #[.agg cx1.toArray,.int .i64 x2] w (Gives M w (fun M' u=>repL M' u r)):=by
 refine Zh Try.func26 rfl 85 rfl rfl (by kernel_rfl) fun T hT => ?_
 have hT_0:T 0 = .agg cx1.toArray:=hT 0
 have hT_1:T 1 = .int .i64 x2:=hT 1
 clear hT
 have hE:=Qg w.heap.size noX M
 have hS:St w noX M [] w:=Zv hA
 rw [gorderD] at hz
 refine Qh <|Qi ?_
 refine Qu (Yo (v := .agg cx1.toArray) (cs:=cx1) hT_0 rfl hS ?_)
 intro b4 w3 hb4 hS
 refine Qd (Qj ((.slice none 0 0)) rfl) ?_
 refine Qf (Qa ?_)
 refine Qh <|Qh <|Qi ?_
 have ha5:=(rr hcx1)
 refine Qd (Zg ta61 rfl (hS.bvB 0 rfl) (Rep.len ha5)) <|Qd (Qe (.int .i64 x2) hT_1) ?_
 obtain ⟨r8,hr7,hz⟩:=Qb hz
 refine Qu (Z4 (vs:=[.agg (sl cx1 (0) 64).toArray,.int .i64 x2]) (v := .bool r8) cb55 (Ya rfl rfl) hS (ready_ok hS.agree ha5 hr7) ?_)
 intro w6 hS
 refine Qd (Ye rfl) ?_
 refine Qf (Qa ?_)
 refine Qr rfl (fun hc9 => ?_) (fun hc9 => ?_)
 replace hz:=Qn hz hc9
 refine Qh <|Qi <|Qd (Qj ((.slice none 0 0)) rfl) ?_
 refine Qf (Qa ?_)
 cases hz
 exact Q4 (Qs (Yj rfl rfl (Zj (Qm hS) hE (Z3 _))))
 replace hz:=Qo hz hc9
 refine Qv (Qa ?_)
 refine Qh <|Qi ?_
 have ha10:=(rr hcx1)
 refine Qd (Zg ta61 rfl (hS.bvB 0 rfl) (Rep.len ha10)) ?_
 have k11_0:=GSearch.w0 (Zr.zr:rep M (Zr.zc GSearch) (Zr.zd:GSearch)) ha10
 obtain ⟨d12,hd11,hz⟩:=Qb hz
 obtain ⟨cs11,hf11,ha11⟩ : ∃ cs,fillZ (([(0,64),(64,32),(96,32),(128,32),(160,1),(161,32),(193,1)]:List (Nat × Nat))[·]?) (Zr.zc GSearch) [(0,.agg (sl cx1 (0) 64).toArray)]=some cs∧rep M cs d12:=⟨_,(Zb (Zr.zr:rep M (Zr.zc GSearch) (Zr.zd:GSearch)) rfl rfl (Rep.len ha10) (by decide) Z8),Z9 (x:=({ g:=x1,mark_:=Zr.zd,low:=Zr.zd,on_:=Zr.zd,stack:=Zr.zd,ring:=Zr.zd,next:=Zr.zd }:GSearch)) k11_0 hd11⟩
 have hp13:sl cs11 160 1=[.slice none 0 0]:=(Yx hf11 (by rfl)).trans (by rfl)
 replace hS:=hS.nilStk 3 1
 have hk15:skr M (.slice none 0 0) [] ([]:List Int):=skr_nil
 refine Qd (Zx [(0,.agg (sl cx1 (0) 64).toArray)] tb104 (Ys rfl Vf) hf11) ?_
 refine Qu (Yo (v := .agg cs11.toArray) (cs:=cs11) rfl rfl hS ?_)
 intro b17 w16 hb17 hS
 refine Qd (Qj (.pointer (some ⟨b17,0,none⟩)) rfl) ?_
 refine Qf (Qa ?_)
 refine Qh <|Qi <|Qd (Qe (.pointer (some ⟨b17,0,none⟩)) rfl) <|Qd (Qe (.int .i64 x2) hT_1) ?_
 obtain ⟨r20,hr19,hz⟩:=Qb hz
 refine Qu (Zw (vs:=[.pointer (some ⟨b17,0,none⟩),.int .i64 x2]) (L:=[.box b17 cs11 104,.stk (.slice none 0 0) 3 1 []]) (R:=[.box b4 cx1 61]) (rv:=(fun M' u L' => ∃ k0 u1 x1,u = .tuple #[]∧L'=[.box b17 k0 104,.stk u1 3 1 x1]∧rep M' k0 r20.1∧skr M' u1 x1 r20.2∧sl k0 160 1=[u1])) cb56 (Ya rfl rfl) hS (hS.sel [0,1,2] (by decide) rfl) (fun hS=>visit_ok hS ha11 hk15 hp13 hr19) ?_)
 rintro u19 M19 w18 L19 hx19 ⟨k0_19,u1_19,x1_19,rfl,hL19,f19_0,f19_1,f19_2⟩ hS
 replace hS:=hS _ hL19
 replace hE:=Qc hE hx19
 refine Qf (Qa ?_)
 refine Qh <|Qi <|Qd (Qj ((.slice none 0 0)) rfl) ?_
 refine Qf (Qa ?_)
 refine Qh <|Qi ?_
 refine Qu (Zf tz58 hS ?_)
 intro b22 w21 hb22 hS
 have zb22:rep M19 (Zr.zc (Vector Bool 32)) (Zr.zd:Vector Bool 32):=Zr.zr
 refine Qf (Qa ?_)
 refine Qy ?_
 replace hS:=hS.nilRow 3 1
 refine Zy (fun k35 T' w' => ∃ M25 cs27 d28 cs29 d30 v33 l32,Mm.ext w.heap.size noX M19 M25∧St w noX M25 [.row v33 3 1,.box b22 cs27 58,.box b17 cs29 104,.stk u1_19 3 1 x1_19,.box b4 cx1 61] w'∧rep M25 cs27 d28∧rep M25 cs29 d30∧sl cs29 (0+160) 1=[u1_19]∧repL M25 v33 l32∧T' 5 = .pointer (some ⟨b17,0,none⟩)∧T' 6=v33∧T' 7 = .pointer (some ⟨b22,0,none⟩)∧gorder_l1 fu k35 d28 d30 l32=some r) fu ?_ ?_ ?_
 exact ⟨M19,(Zr.zc (Vector Bool 32)),(Zr.zd:Vector Bool 32),k0_19,r20.1,(.slice none 0 0),([]:List Int),(Qg _ _ _),hS,zb22,f19_0,f19_2,(Z3 _),rfl,rfl,rfl,hz⟩
 rintro T' w' ⟨_,_,_,_,_,_,_,_,_,_,_,_,_,_,_,_,hz⟩
 rw [gorder_l1] at hz
 cases hz
 intro k35
 rintro T26 w24 ⟨M25,cs27,d28,cs29,d30,v33,l32,hx37,hS,hb27,hb29,hp31,hv33,hT26_5,hT26_6,hT26_7,hz⟩
 replace hE:=Qc hE hx37
 have hF36:=hx37
 rw [gorder_l1] at hz
 obtain ⟨rec34,hrec34⟩ : ∃ f,f=gorder_l1 fu k35:=⟨_,rfl⟩
 rw [← hrec34] at hz
 refine Qy <|Qh <|Qi <|Qd (Qj (.int .i64 (-1)) rfl) ?_
 refine Qf (Qa ?_)
 refine Qz (fun T' w' => ∃ M39 cs41 d42 y44,Mm.ext w.heap.size noX M25 M39∧St w noX M39 [.row v33 3 1,.box b22 cs27 58,.box b17 cs41 104,.stk u1_19 3 1 x1_19,.box b4 cx1 61] w'∧rep M39 cs41 d42∧sl cs41 (0+160) 1=[u1_19]∧T' 5 = .pointer (some ⟨b17,0,none⟩)∧T' 6=v33∧T' 7 = .pointer (some ⟨b22,0,none⟩)∧T' 8 = .int .i64 y44∧gorder_j1 fu d28 l32 rec34 d42 y44=some r) ?_ ?_
 have hF99:=Qg w.heap.size noX M25
 refine Qh <|Qi <|Qd (Qe (.int .i64 0) rfl) ?_
 refine Qf (Qa ?_)
 refine Qy ?_
 refine Zy (fun k109 T' w' => ∃ M101 cs103 d104 y106 y107,Mm.ext w.heap.size noX M25 M101∧St w noX M101 [.row v33 3 1,.box b22 cs27 58,.box b17 cs103 104,.stk u1_19 3 1 x1_19,.box b4 cx1 61] w'∧rep M101 cs103 d104∧sl cs103 (0+160) 1=[u1_19]∧T' 5 = .pointer (some ⟨b17,0,none⟩)∧T' 6=v33∧T' 7 = .pointer (some ⟨b22,0,none⟩)∧T' 8 = .int .i64 y106∧T' 21 = .int .i64 y107∧gorder_l3 fu d28 l32 rec34 k109 d104 y106 y107=some r) fu ?_ ?_ ?_
 exact ⟨M25,cs29,d30,((-1):Int),(0:Int),(Qg _ _ _),hS,hb29,hp31,hT26_5,hT26_6,hT26_7,rfl,rfl,hz⟩
 rintro T' w' ⟨_,_,_,_,_,_,_,_,_,_,_,_,_,_,hz⟩
 rw [gorder_l3] at hz
 cases hz
 intro k109
 rintro T102 w100 ⟨M101,cs103,d104,y106,y107,hx111,hS,hb103,hp105,hT102_5,hT102_6,hT102_7,hT102_8,hT102_21,hz⟩
 replace hb27:=Rep.mono hx111.1 hb27
 replace hF99:=Qc hF99 hx111
 have hF110:=hx111
 rw [gorder_l3] at hz
 obtain ⟨rec108,hrec108⟩ : ∃ f,f=gorder_l3 fu d28 l32 rec34 k109:=⟨_,rfl⟩
 rw [← hrec108] at hz
 refine Qh <|Qi <|Qd (Zq hT102_21 rfl) ?_
 refine Qf (Qa ?_)
 refine Qh ?_
 refine Qr rfl (fun hc112 => ?_) (fun hc112 => ?_)
 replace hz:=Qn hz hc112
 refine Qv (Qa ?_)
 refine Qz (fun T' w' => ∃ M114 cs116 d117 y119,Mm.ext w.heap.size noX M101 M114∧St w noX M114 [.row v33 3 1,.box b22 cs27 58,.box b17 cs116 104,.stk u1_19 3 1 x1_19,.box b4 cx1 61] w'∧rep M114 cs116 d117∧sl cs116 (0+160) 1=[u1_19]∧T' 5 = .pointer (some ⟨b17,0,none⟩)∧T' 6=v33∧T' 7 = .pointer (some ⟨b22,0,none⟩)∧T' 8 = .int .i64 y119∧T' 21 = .int .i64 y107∧gorder_j4 y107 rec108 d117 y119=some r) ?_ ?_
 have hF121:=Qg w.heap.size noX M101
 refine Qy <|Qh <|Qi <|Qd (Qe (.int .i64 y107) hT102_21) <|Qd (Qj (.int .i64 y107) rfl) ?_
 refine Qf (Qa ?_)
 refine Qz (fun T' w' => ∃ M123 cs125 d126 c128,Mm.ext w.heap.size noX M101 M123∧St w noX M123 [.row v33 3 1,.box b22 cs27 58,.box b17 cs125 104,.stk u1_19 3 1 x1_19,.box b4 cx1 61] w'∧rep M123 cs125 d126∧sl cs125 (0+160) 1=[u1_19]∧T' 5 = .pointer (some ⟨b17,0,none⟩)∧T' 6=v33∧T' 7 = .pointer (some ⟨b22,0,none⟩)∧T' 8 = .int .i64 y106∧T' 9 = .int .i64 y107∧T' 21 = .int .i64 y107∧T' 52 = .bool c128∧gorder_j5 fu d28 l32 rec34 y106 y107 rec108 d126 c128=some r) ?_ ?_
 have hF131:=Qg w.heap.size noX M101
 refine Qi <|Qd (Qe (.pointer (some ⟨b17,0,none⟩)) hT102_5) <|Qd (Qe (.int .i64 y107) rfl) <|Qd (Q6 rfl) <|Qd (Qp Jd rfl) ?_
 obtain ⟨u132,hx133,hz⟩:=Qb hz
 obtain ⟨hx133a,hx133b⟩:=Qt hx133
 refine Qd (Za V1 rfl rfl hx133a hx133b) ?_
 obtain ⟨x134,hx135,hz⟩:=Qb hz
 refine Qd (Ql (.int .i64 x134) Z5 rfl (hS.bvB 2 rfl) (vp (k:=1) rfl rfl (Vs (rr hb103)) hx135)) <|Qd (Yu rfl rfl) <|Qd (Qe (.bool (decide (x134>0))) rfl) ?_
 rcases ic hz with ⟨hc136,hz⟩ | ⟨hc136,hz⟩<;>rw [hc136]
 refine Qk rfl rfl (Qe (.int .i64 y107) rfl) ?_
 obtain ⟨u137,hx138,hz⟩:=Qb hz
 obtain ⟨hx138a,hx138b⟩:=Qt hx138
 refine Qk rfl rfl (Za Jm hT102_7 rfl hx138a hx138b) ?_
 obtain ⟨x139,hx140,hz⟩:=Qb hz
 refine Qk rfl rfl (Ql (.bool x139) Jk rfl (hS.bvB 1 rfl) (vp (k:=1) rfl rfl (rr hb27) hx140)) <|Qk rfl rfl (Ye rfl) <|Q2 2 rfl ?_
 rcases ic hz with ⟨hc141,hz⟩ | ⟨hc141,hz⟩<;>rw [hc141]
 refine Qk rfl rfl (Qe (.pointer (some ⟨b17,0,none⟩)) hT102_5) <|Qk rfl rfl (Qe (.int .i64 y107) rfl) <|Qk rfl rfl (Q6 rfl) <|Qk rfl rfl (Qp fa104_5 rfl) ?_
 obtain ⟨u142,hx143,hz⟩:=Qb hz
 obtain ⟨hx143a,hx143b⟩:=Qt hx143
 refine Qk rfl rfl (Za V1 rfl rfl hx143a hx143b) ?_
 obtain ⟨x144,hx145,hz⟩:=Qb hz
 refine Qk rfl rfl (Ql (.int .i64 x144) Z5 rfl (hS.bvB 2 rfl) (vp (k:=1) rfl rfl (Kj (rr hb103)) hx145)) <|Qk rfl rfl (Qe (.int .i64 y107) rfl) <|Qk rfl rfl (Yc rfl rfl) <|Q2 2 rfl ?_
 rcases ic hz with ⟨hc146,hz⟩ | ⟨hc146,hz⟩<;>rw [hc146]
 refine Qk rfl rfl (Qe (.pointer (some ⟨b17,0,none⟩)) hT102_5) <|Qk rfl rfl (Qe (.int .i64 y107) rfl) ?_
 have ha147:=(rr hb27)
 refine Qk rfl rfl (Zg ta58 hT102_7 (hS.bvB 1 rfl) (Rep.len ha147)) ?_
 obtain ⟨r150,hr149,hz⟩:=Qb hz
 refine Km rfl rfl (Zw (vs:=[.pointer (some ⟨b17,0,none⟩),.int .i64 y107,.agg (sl cs27 (0) 32).toArray]) (L:=[.box b17 cs103 104]) (R:=[.row v33 3 1,.box b22 cs27 58,.stk u1_19 3 1 x1_19,.box b4 cx1 61]) (rv:=(fun M' u L'=>u = .bool r150∧L'=[.box b17 cs103 104])) cb57 (Jj rfl rfl rfl) hS (hS.sel [2,0,1,3,4] (by decide) rfl) (fun hS=>free_ok hS hb103 ha147 hr149) ?_)
 rintro u149 M149 w148 L149 hx149 ⟨rfl,hL149⟩ hS
 replace hS:=hS _ hL149
 replace hb103:=Rep.mono hx149.1 hb103
 replace hF131:=Qc hF131 hx149
 refine Qd (Zp (.bool r150) rfl rfl) ?_
 refine Qf (Qa ?_)
 exact ⟨M149,cs103,d104,r150,hF131,(hS.sel (H':=[.row v33 3 1,.box b22 cs27 58,.box b17 cs103 104,.stk u1_19 3 1 x1_19,.box b4 cx1 61]) [1,2,0,3,4] (by decide) rfl),hb103,hp105,hT102_5,hT102_6,hT102_7,hT102_8,rfl,hT102_21,rfl,hz⟩
 refine Q2 5 rfl ?_
 refine Qf (Qa ?_)
 exact ⟨M101,cs103,d104,false,hF131,hS,hb103,hp105,hT102_5,hT102_6,hT102_7,hT102_8,rfl,hT102_21,rfl,hz⟩
 refine Q2 15 rfl ?_
 refine Qf (Qa ?_)
 exact ⟨M101,cs103,d104,false,hF131,hS,hb103,hp105,hT102_5,hT102_6,hT102_7,hT102_8,rfl,hT102_21,rfl,hz⟩
 refine Q2 21 rfl ?_
 refine Qf (Qa ?_)
 exact ⟨M101,cs103,d104,false,hF131,hS,hb103,hp105,hT102_5,hT102_6,hT102_7,hT102_8,rfl,hT102_21,rfl,hz⟩
 rintro T124 w122 ⟨M123,cs125,d126,c128,hx129,hS,hb125,hp127,hT124_5,hT124_6,hT124_7,hT124_8,hT124_9,hT124_21,hT124_52,hz⟩
 replace hF99:=Qc hF99 hx129
 replace hF121:=Qc hF121 hx129
 rw [gorder_j5] at hz
 refine Qr hT124_52 (fun hc130 => ?_) (fun hc130 => ?_)
 replace hz:=Qn hz hc130
 refine Qh <|Qi <|Qd (Qe (.int .i64 y107) hT124_9) <|Qd (Qj (.int .i64 y107) rfl) ?_
 refine Qf (Qa ?_)
 refine Zs <|ex_blk rfl <|Q0 <|Q0 <|Zt ?_
 refine (Qa ?_)
 exact ⟨M123,cs125,d126,y107,hF99,hS,hb125,hp127,hT124_5,hT124_6,hT124_7,rfl,hz⟩
 replace hz:=Qo hz hc130
 refine Qv (Q7 ?_)
 refine (Qa ?_)
 exact ⟨M123,cs125,d126,y106,hF121,hS,hb125,hp127,hT124_5,hT124_6,hT124_7,hT124_8,hT124_21,hz⟩
 rintro T115 w113 ⟨M114,cs116,d117,y119,hx120,hS,hb116,hp118,hT115_5,hT115_6,hT115_7,hT115_8,hT115_21,hz⟩
 replace hF110:=Qc hF110 hx120
 rw [gorder_j4] at hz
 refine Qi <|Qd (Zz hT115_21 rfl) <|Qd (Qe (.int .i64 (IntKind.wrap .i64 (y107+1))) rfl) ?_
 refine Qf (Qa ?_)
 exact ⟨M114,cs116,d117,y119,(IntKind.wrap .i64 (y107+1)),hF110,hS,hb116,hp118,hT115_5,hT115_6,hT115_7,hT115_8,rfl,(by rw [← hrec108];exact hz)⟩
 replace hz:=Qo hz hc112
 refine Zs <|Q0 <|Q0 <|Zt ?_
 refine (Qa ?_)
 exact ⟨M101,cs103,d104,y106,hF99,hS,hb103,hp105,hT102_5,hT102_6,hT102_7,hT102_8,hz⟩
 rintro T40 w38 ⟨M39,cs41,d42,y44,hx45,hS,hb41,hp43,hT40_5,hT40_6,hT40_7,hT40_8,hz⟩
 replace hb27:=Rep.mono hx45.1 hb27
 replace hv33:=Qw hx45.1 hv33
 replace hE:=Qc hE hx45
 replace hF36:=Qc hF36 hx45
 rw [gorder_j1] at hz
 refine Qh <|Qh <|Qi <|Qd (Qe (.int .i64 y44) hT40_8) <|Qd (Zq rfl rfl) ?_
 refine Qf (Qa ?_)
 refine Qr rfl (fun hc46 => ?_) (fun hc46 => ?_)
 replace hz:=Qn hz hc46
 refine Qh <|Qi <|Qd (Qe (v33) hT40_6) <|Qd (Qj (v33) rfl) ?_
 refine Qf (Qa ?_)
 cases hz
 exact Q4 (Qs (Zi (Qs (Zi (Yj rfl rfl (Zj (Qm (Qm (Qm (Qm (Qm hS))))) hE hv33))))))
 replace hz:=Qo hz hc46
 refine Qv (Qa ?_)
 refine Qh <|Qi <|Qd (Qe (.int .i64 0) rfl) ?_
 refine Qf (Qa ?_)
 refine Qy ?_
 refine Zy (fun k56 T' w' => ∃ M48 cs50 d51 v53 l52 y54,Mm.ext w.heap.size noX M39 M48∧St w noX M48 [.row v53 3 1,.box b22 cs50 58,.box b17 cs41 104,.stk u1_19 3 1 x1_19,.box b4 cx1 61] w'∧rep M48 cs50 d51∧repL M48 v53 l52∧T' 5 = .pointer (some ⟨b17,0,none⟩)∧T' 6=v53∧T' 7 = .pointer (some ⟨b22,0,none⟩)∧T' 8 = .int .i64 y44∧T' 58 = .int .i64 y54∧gorder_l2 rec34 d42 y44 k56 d51 l52 y54=some r) fu ?_ ?_ ?_
 exact ⟨M39,cs27,d28,v33,l32,(0:Int),(Qg _ _ _),hS,hb27,hv33,hT40_5,hT40_6,hT40_7,hT40_8,rfl,hz⟩
 rintro T' w' ⟨_,_,_,_,_,_,_,_,_,_,_,_,_,_,_,hz⟩
 rw [gorder_l2] at hz
 cases hz
 intro k56
 rintro T49 w47 ⟨M48,cs50,d51,v53,l52,y54,hx58,hS,hb50,hv53,hT49_5,hT49_6,hT49_7,hT49_8,hT49_58,hz⟩
 replace hb41:=Rep.mono hx58.1 hb41
 replace hF36:=Qc hF36 hx58
 have hF57:=hx58
 rw [gorder_l2] at hz
 obtain ⟨rec55,hrec55⟩ : ∃ f,f=gorder_l2 rec34 d42 y44 k56:=⟨_,rfl⟩
 rw [← hrec55] at hz
 refine Qh <|Qi <|Qd (Zq hT49_58 rfl) ?_
 refine Qf (Qa ?_)
 refine Qh ?_
 refine Qr rfl (fun hc59 => ?_) (fun hc59 => ?_)
 replace hz:=Qn hz hc59
 refine Qv (Qa ?_)
 refine Qz (fun T' w' => ∃ M61 cs63 d64 v66 l65,Mm.ext w.heap.size noX M48 M61∧St w noX M61 [.row v66 3 1,.box b22 cs63 58,.box b17 cs41 104,.stk u1_19 3 1 x1_19,.box b4 cx1 61] w'∧rep M61 cs63 d64∧repL M61 v66 l65∧T' 5 = .pointer (some ⟨b17,0,none⟩)∧T' 6=v66∧T' 7 = .pointer (some ⟨b22,0,none⟩)∧T' 8 = .int .i64 y44∧T' 58 = .int .i64 y54∧gorder_j2 y54 rec55 d64 l65=some r) ?_ ?_
 have hF68:=Qg w.heap.size noX M48
 refine Qy <|Qh <|Qi <|Qd (Qe (.int .i64 y54) hT49_58) <|Qd (Qj (.int .i64 y54) rfl) ?_
 refine Qf (Qa ?_)
 refine Qz (fun T' w' => ∃ M70 c72,Mm.ext w.heap.size noX M48 M70∧St w noX M70 [.row v53 3 1,.box b22 cs50 58,.box b17 cs41 104,.stk u1_19 3 1 x1_19,.box b4 cx1 61] w'∧T' 5 = .pointer (some ⟨b17,0,none⟩)∧T' 6=v53∧T' 7 = .pointer (some ⟨b22,0,none⟩)∧T' 8 = .int .i64 y44∧T' 10 = .int .i64 y54∧T' 58 = .int .i64 y54∧T' 77 = .bool c72∧gorder_j3 d51 l52 y54 rec55 c72=some r) ?_ ?_
 have hF89:=Qg w.heap.size noX M48
 refine Qi <|Qd (Qe (.pointer (some ⟨b17,0,none⟩)) hT49_5) <|Qd (Qe (.int .i64 y54) rfl) <|Qd (Q6 rfl) <|Qd (Qp Jd rfl) ?_
 obtain ⟨u90,hx91,hz⟩:=Qb hz
 obtain ⟨hx91a,hx91b⟩:=Qt hx91
 refine Qd (Za V1 rfl rfl hx91a hx91b) ?_
 obtain ⟨x92,hx93,hz⟩:=Qb hz
 refine Qd (Ql (.int .i64 x92) Z5 rfl (hS.bvB 2 rfl) (vp (k:=1) rfl rfl (Vs (rr hb41)) hx93)) <|Qd (Yu rfl rfl) <|Qd (Qe (.bool (decide (x92>0))) rfl) ?_
 rcases ic hz with ⟨hc94,hz⟩ | ⟨hc94,hz⟩<;>rw [hc94]
 refine Qk rfl rfl (Qe (.pointer (some ⟨b17,0,none⟩)) hT49_5) <|Qk rfl rfl (Qe (.int .i64 y54) rfl) <|Qk rfl rfl (Q6 rfl) <|Qk rfl rfl (Qp fa104_5 rfl) ?_
 obtain ⟨u95,hx96,hz⟩:=Qb hz
 obtain ⟨hx96a,hx96b⟩:=Qt hx96
 refine Qk rfl rfl (Za V1 rfl rfl hx96a hx96b) ?_
 obtain ⟨x97,hx98,hz⟩:=Qb hz
 refine Qk rfl rfl (Ql (.int .i64 x97) Z5 rfl (hS.bvB 2 rfl) (vp (k:=1) rfl rfl (Kj (rr hb41)) hx98)) <|Qk rfl rfl (Qe (.int .i64 y44) hT49_8) <|Qk rfl rfl (Yc rfl rfl) <|Qd (Zp (.bool (x97==y44)) rfl rfl) ?_
 refine Qf (Qa ?_)
 exact ⟨M48,(x97==y44),hF89,hS,hT49_5,hT49_6,hT49_7,hT49_8,rfl,hT49_58,rfl,hz⟩
 refine Q2 9 rfl ?_
 refine Qf (Qa ?_)
 exact ⟨M48,false,hF89,hS,hT49_5,hT49_6,hT49_7,hT49_8,rfl,hT49_58,rfl,hz⟩
 rintro T71 w69 ⟨M70,c72,hx73,hS,hT71_5,hT71_6,hT71_7,hT71_8,hT71_10,hT71_58,hT71_77,hz⟩
 replace hb50:=Rep.mono hx73.1 hb50
 replace hv53:=Qw hx73.1 hv53
 replace hF68:=Qc hF68 hx73
 rw [gorder_j3] at hz
 refine Qr hT71_77 (fun hc74 => ?_) (fun hc74 => ?_)
 replace hz:=Qn hz hc74
 refine Qh <|Qi <|Qd (Qe (.int .i64 y54) hT71_10) ?_
 obtain ⟨u75,hx76,hz⟩:=Qb hz
 obtain ⟨hx76a,hx76b⟩:=Qt hx76
 refine Qd (Za Jm hT71_7 rfl hx76a hx76b) ?_
 obtain ⟨x79,hx80,hz⟩:=Qb hz
 obtain ⟨a81,hx82,hz⟩:=Qb hz
 obtain ⟨d83,hd78,hz⟩:=Qb hz
 refine Qu (Q8 1 1 hS rfl hb50 rfl rfl (rb true:rep M70 _ _) rfl rfl (vu (k:=1) rfl rfl (rr hb50) (Lf (vp (k:=1) rfl rfl (rr hb50) hx80) (rb true:rep M70 _ _)) hx82) hd78 ?_)
 intro cs78 w77 hb78 ha78 hs78 hS
 refine Qf (Qa ?_)
 refine Qi <|Qd (Qe (v53) hT71_6) <|Qd (Qe (.int .i64 y54) hT71_10) ?_
 refine Qu (Z0 (α := Int) (l:=([y54]:List Int)) [.int .i64 y54] tl28 (Ys rfl Vf) rfl rfl (by decide) (by decide) (by decide) hS (K5 (ri y54:rep M70 _ _) Ji) ?_)
 intro v85 M85 w84 hx85 hv85 hS
 replace hv53:=Qw hx85.1 hv53
 obtain ⟨l88,hr87,hz⟩:=Qb hz
 obtain ⟨hy87,hs87⟩:=Z1 hr87
 refine Qu (Y3 (α := Int) (j:=0) Jh hS rfl rfl rfl hv53 hv85 hy87 ?_)
 intro v87 M87 w86 hx87 hv87 hS
 rw [← hs87] at hv87
 clear hr87 hs87
 replace hb78:=Rep.mono (hx85.1.trans hx87.1) hb78
 replace hF68:=Qc hF68 (hx85.trans hx87)
 refine Qd (Qj (v87) rfl) ?_
 refine Qf (Q7 ?_)
 refine (Qa ?_)
 exact ⟨M87,cs78,d83,v87,l88,hF68,hS,hb78,hv87,hT71_5,rfl,hT71_7,hT71_8,hT71_58,hz⟩
 replace hz:=Qo hz hc74
 refine Qv (Q7 ?_)
 refine (Qa ?_)
 exact ⟨M70,cs50,d51,v53,l52,hF68,hS,hb50,hv53,hT71_5,hT71_6,hT71_7,hT71_8,hT71_58,hz⟩
 rintro T62 w60 ⟨M61,cs63,d64,v66,l65,hx67,hS,hb63,hv66,hT62_5,hT62_6,hT62_7,hT62_8,hT62_58,hz⟩
 replace hF57:=Qc hF57 hx67
 rw [gorder_j2] at hz
 refine Qi <|Qd (Zz hT62_58 rfl) <|Qd (Qe (.int .i64 (IntKind.wrap .i64 (y54+1))) rfl) ?_
 refine Qf (Qa ?_)
 exact ⟨M61,cs63,d64,v66,l65,(IntKind.wrap .i64 (y54+1)),hF57,hS,hb63,hv66,hT62_5,hT62_6,hT62_7,hT62_8,rfl,(by rw [← hrec55];exact hz)⟩
 replace hz:=Qo hz hc59
 refine Zs <|Q0 <|Q0 <|Zt ?_
 refine (Q7 ?_)
 refine (Qa ?_)
 exact ⟨M48,cs50,d51,cs41,d42,v53,l52,hF36,hS,hb50,hb41,hp43,hv53,hT49_5,hT49_6,hT49_7,(by rw [← hrec34];exact hz)⟩
end Go.Proofs.Yteilffoclpgijaa
