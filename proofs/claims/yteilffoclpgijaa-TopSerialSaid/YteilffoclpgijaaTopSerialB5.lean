/- What the proof of TopSerial rests on, part 5: rules of walks, what functions compute, and plain laws of it. -/
import Derived.Test.YteilffoclpgijaaTopSerialB4
namespace Go.Proofs.Yteilffoclpgijaa
open Go.RowKit
open Rep (rep)
set_option linter.unusedVariables false
abbrev Vm := @Try.underlying23
abbrev Yy := @GCluster.p0
abbrev Y5 := @GCluster.p2
abbrev Vd := @GCluster.p4
abbrev Jq := @fa90_6
abbrev V2 := @GReply.w0
abbrev Kq := @ta40
abbrev Vv := @GCluster.p5
abbrev Ve := @GCluster.p3
abbrev Yz := @GCluster.p1
abbrev Je := @GCluster.u0
abbrev Kr := @fa43_1
abbrev V4 := @GAct.p1
abbrev Jk := @GAct.p0
def cloneStrsD (fu:Nat) (x1:List ByteArray):Option (List ByteArray) :=
 (app ([]:List ByteArray) x1).bind fun l8 =>
 some l8
set_option maxRecDepth 100000 in
set_option maxHeartbeats 4000000 in
theorem cloneStrs_ok {M:Mm} {w:World} {vx1:Value} {x1:List ByteArray} {fu:Nat} {r:(List ByteArray)} (hA:Agree M w) (hvx1:repL M vx1 x1) (hz:cloneStrsD fu x1=some r) :
    Calls Try.prog 59 #[vx1] w (GivesL M w [] (fun M' u L' => ∃ v0,u=v0∧L'=[.row v0 9 1]∧repL M' v0 r)):=by
 refine Zi Try.func59 rfl 8 rfl rfl (by kernel_rfl) fun T hT => ?_
 have hT_0:T 0=vx1:=hT 0
 clear hT
 have hE:=Qg w.heap.size (lentX []) M
 have hS:St w (lentX []) M [] w:=Zt hA
 rw [cloneStrsD] at hz
 refine Qh <|Qi <|Qc (Qj ((.slice none 0 0)) rfl) ?_
 refine Qf (Qa ?_)
 refine Qh <|Qh <|Qi <|Qc (Qe (vx1) hT_0) <|Qc (Y_eqNilL rfl rfl Vl hvx1) ?_
 refine Qf (Qa ?_)
 refine Qs rfl (fun hc2 => ?_) (fun hc2 => ?_)
 replace hz:(some [])=some r:=by rw [repL_isNil hvx1 hc2] at hz;simpa [app] using hz
 refine Qh <|Qi <|Qc (Qj ((.slice none 0 0)) rfl) ?_
 refine Qf (Qa ?_)
 replace hS:=hS.nilRow 9 1
 cases hz
 exact Q4 (Qq (Yg rfl rfl ⟨_,M,_,rfl,hE,(hS.sel (H':=[.row (.slice none 0 0) 9 1]) [0] (by decide) rfl),(.slice none 0 0),rfl,rfl,(Z3 _)⟩))
 refine Qv (Qa ?_)
 refine Qh <|Qi ?_
 refine Qt (O_bslice0R tp72 hS ?_)
 intro v4 M4 w3 hx4 hv4 hS
 replace hv4:repL M4 v4 ([]:List ByteArray):=hv4 _
 replace hvx1:=Qu hx4.1 hvx1
 refine Qc (Qe (vx1) hT_0) ?_
 obtain ⟨l8,hr7,hz⟩:=Qb hz
 obtain ⟨hy7,hs7⟩:=Z1 hr7
 refine Qt (Y2 (α := ByteArray) (j:=0) tp72 hS rfl rfl rfl hv4 hvx1 hy7 ?_)
 intro v7 M7 w6 hx7 hv7 hS
 rw [← hs7] at hv7
 clear hr7 hs7
 replace hE:=Qd hE (hx4.trans hx7)
 refine Qc (Qj (v7) rfl) ?_
 refine Qf (Qa ?_)
 cases hz
 exact Q4 (Yg rfl rfl ⟨_,M7,_,rfl,hE,(hS.sel (H':=[.row v7 9 1]) [0] (by decide) rfl),v7,rfl,rfl,hv7⟩)
def ownedD (fu:Nat) (x1:GEntry):Option GEntry :=
 (cloneOpsD fu x1.ops).bind fun r16 =>
 (cloneIntsD fu x1.first).bind fun r20 =>
 (cloneIntsD fu x1.deps).bind fun r25 =>
 (cloneIntsD fu x1.at_).bind fun r30 =>
 (cloneIntsD fu x1.values).bind fun r35 =>
 (some ({ x1 with ops:=r16 }:GEntry)).bind fun d40 =>
 (some ({ d40 with first:=r20 }:GEntry)).bind fun d43 =>
 (some ({ d43 with deps:=r25 }:GEntry)).bind fun d46 =>
 (some ({ d46 with at_:=r30 }:GEntry)).bind fun d49 =>
 (some ({ d49 with values:=r35 }:GEntry)).bind fun d52 =>
 (some d52).bind fun d56 =>
 some d56
set_option maxRecDepth 100000 in
set_option maxHeartbeats 4000000 in
theorem owned_ok {M:Mm} {w:World} {cx1:List Value} {x1:GEntry} {fu:Nat} {r:GEntry} (hA:Agree M w) (hcx1:rep M cx1 x1) (hz:ownedD fu x1=some r) :
    Calls Try.prog 45 #[.agg cx1.toArray] w (Gives M w (fun M' u => ∃ cs,u = .agg cs.toArray∧rep M' cs r)):=by
 refine Zi Try.func45 rfl 24 rfl rfl (by kernel_rfl) fun T hT => ?_
 have hT_0:T 0 = .agg cx1.toArray:=hT 0
 clear hT
 have hE:=Qg w.heap.size noX M
 have hS:St w noX M [] w:=Zt hA
 rw [ownedD] at hz
 refine Qh <|Qi ?_
 refine Qt (Ys (v := .agg cx1.toArray) (cs:=cx1) hT_0 rfl hS ?_)
 intro b3 w2 hb3 hS
 refine Qt (Zf tz30 hS ?_)
 intro b5 w4 hb5 hS
 have zb5:rep M (Zr.zc GEntry) (Zr.zd:GEntry):=Zr.zr
 refine Qf (Qa ?_)
 refine Qh <|Yq [.box b3 cx1 30] [16,18,20,22,24] Z8 hS fun w6 hS hG7 hR8=>wy 0 rfl (Qp Jd rfl) (fun _=>hR8) ?_
 obtain ⟨v9,ev9,hv9⟩:=(Vu (rr hcx1))
 refine Y0 1 rfl (Ql v9 Vn rfl (Yo 0 rfl) ev9) hR8 <|wy 3 rfl (Qp fa30_2 rfl) (fun _=>hR8) ?_
 obtain ⟨v10,ev10,hv10⟩:=(Kd (rr hcx1))
 refine Y0 4 rfl (Ql v10 Z5 rfl (Yo 0 rfl) ev10) hR8 <|wy 6 rfl (Qp Jp rfl) (fun _=>hR8) ?_
 obtain ⟨v11,ev11,hv11⟩:=(V1 (rr hcx1))
 refine Y0 7 rfl (Ql v11 Z5 rfl (Yo 0 rfl) ev11) hR8 <|wy 9 rfl (Qp Vp rfl) (fun _=>hR8) ?_
 obtain ⟨v12,ev12,hv12⟩:=(Yh (rr hcx1))
 refine Y0 10 rfl (Ql v12 Z5 rfl (Yo 0 rfl) ev12) hR8 <|wy 12 rfl (Qp V6 rfl) (fun _=>hR8) ?_
 obtain ⟨v13,ev13,hv13⟩:=(Yu (rr hcx1))
 refine Y0 13 rfl (Ql v13 Z5 rfl (Yo 0 rfl) ev13) hR8 ?_
 obtain ⟨r16,hr15,hz⟩:=Qb hz
 refine w1 2 rfl (Yt (vs:=[v9]) (rv:=(fun M' u=>repL M' u r16)) cb53 (Zs rfl) hS (cloneOps_ok hS.agree hv9 hr15) ?_)
 intro u15 M15 w14 hx15 hu15 hS
 have f15:repL M15 u15 r16:=hu15
 replace hv10:=Qu hx15.1 hv10
 replace hG7:=Qd hG7 hx15
 refine Yp hS hG7 fun hR17=>wy 15 rfl (Qp Jd rfl) (fun _=>hR17) ?_
 obtain ⟨r20,hr19,hz⟩:=Qb hz
 refine w1 5 rfl (Zu (vs:=[v10]) (L:=[]) (R:=[.box b5 (Zr.zc GEntry) 30,.box b3 cx1 30]) (rv:=(fun M' u L' => ∃ v0,u=v0∧L'=[.row v0 3 1]∧repL M' v0 r20)) cb44 (Zs rfl) hS (hS.sel [0,1] (by decide) rfl) (fun hS=>Vk hS.agree hv10 hr19) ?_)
 rintro u19 M19 w18 L19 hx19 ⟨v0_19,rfl,hL19,f19_0⟩ hS
 replace hS:=hS _ hL19
 replace hv11:=Qu (hx15.1.trans hx19.1) hv11
 replace hG7:=Qd hG7 hx19
 refine Yp hS hG7 fun hR22 => ?_
 obtain ⟨r25,hr24,hz⟩:=Qb hz
 refine w1 8 rfl (Zu (vs:=[v11]) (L:=[]) (R:=[.row u19 3 1,.box b5 (Zr.zc GEntry) 30,.box b3 cx1 30]) (rv:=(fun M' u L' => ∃ v0,u=v0∧L'=[.row v0 3 1]∧repL M' v0 r25)) cb44 (Zs rfl) hS (hS.sel [0,1,2] (by decide) rfl) (fun hS=>Vk hS.agree hv11 hr24) ?_)
 rintro u24 M24 w23 L24 hx24 ⟨v0_24,rfl,hL24,f24_0⟩ hS
 replace hS:=hS _ hL24
 replace hv12:=Qu (hx15.1.trans (hx19.1.trans hx24.1)) hv12
 replace hG7:=Qd hG7 hx24
 refine Yp hS hG7 fun hR27 => ?_
 obtain ⟨r30,hr29,hz⟩:=Qb hz
 refine w1 11 rfl (Zu (vs:=[v12]) (L:=[]) (R:=[.row u24 3 1,.row u19 3 1,.box b5 (Zr.zc GEntry) 30,.box b3 cx1 30]) (rv:=(fun M' u L' => ∃ v0,u=v0∧L'=[.row v0 3 1]∧repL M' v0 r30)) cb44 (Zs rfl) hS (hS.sel [0,1,2,3] (by decide) rfl) (fun hS=>Vk hS.agree hv12 hr29) ?_)
 rintro u29 M29 w28 L29 hx29 ⟨v0_29,rfl,hL29,f29_0⟩ hS
 replace hS:=hS _ hL29
 replace hv13:=Qu (hx15.1.trans (hx19.1.trans (hx24.1.trans hx29.1))) hv13
 replace hG7:=Qd hG7 hx29
 refine Yp hS hG7 fun hR32 => ?_
 obtain ⟨r35,hr34,hz⟩:=Qb hz
 refine w1 14 rfl (Zu (vs:=[v13]) (L:=[]) (R:=[.row u29 3 1,.row u24 3 1,.row u19 3 1,.box b5 (Zr.zc GEntry) 30,.box b3 cx1 30]) (rv:=(fun M' u L' => ∃ v0,u=v0∧L'=[.row v0 3 1]∧repL M' v0 r35)) cb44 (Zs rfl) hS (hS.sel [0,1,2,3,4] (by decide) rfl) (fun hS=>Vk hS.agree hv13 hr34) ?_)
 rintro u34 M34 w33 L34 hx34 ⟨v0_34,rfl,hL34,f34_0⟩ hS
 replace hS:=hS _ hL34
 replace hcx1:=Rep.mono (hx15.1.trans (hx19.1.trans (hx24.1.trans (hx29.1.trans hx34.1)))) hcx1
 replace zb5:=Rep.mono (hx15.1.trans (hx19.1.trans (hx24.1.trans (hx29.1.trans hx34.1)))) zb5
 replace f15:=Qu (hx19.1.trans (hx24.1.trans (hx29.1.trans hx34.1))) f15
 replace f19_0:=Qu (hx24.1.trans (hx29.1.trans hx34.1)) f19_0
 replace f24_0:=Qu (hx29.1.trans hx34.1) f24_0
 replace f29_0:=Qu hx34.1 f29_0
 replace hE:=Qd hE (hx15.trans (hx19.trans (hx24.trans (hx29.trans hx34))))
 replace hG7:=Qd hG7 hx34
 refine Yp hS hG7 fun hR37 => ?_
 obtain ⟨d40,hd39,hz⟩:=Qb hz
 refine w1 16 rfl (Q7 5 1 hS rfl hcx1 rfl rfl (Q1 f15) (Q9 f15) rfl (GEntry.u1 (rr hcx1) (Lf (Vu (rr hcx1)) (Q1 f15))) hd39 ?_)
 intro cs39 w38 hb39 ha39 hs39 hS
 refine ⟨nB,?_⟩
 refine wy 17 rfl (Qp fa30_2 rfl) nB ?_
 obtain ⟨d43,hd42,hz⟩:=Qb hz
 refine w1 18 rfl (Q7 5 1 hS rfl hb39 rfl rfl (Q1 f19_0) (Q9 f19_0) rfl (GEntry.u2 (rr hb39) (Lf (Kd (rr hb39)) (Q1 f19_0))) hd42 ?_)
 intro cs42 w41 hb42 ha42 hs42 hS
 refine ⟨nB,?_⟩
 refine wy 19 rfl (Qp Jp rfl) nB ?_
 obtain ⟨d46,hd45,hz⟩:=Qb hz
 refine w1 20 rfl (Q7 5 1 hS rfl hb42 rfl rfl (Q1 f24_0) (Q9 f24_0) rfl (GEntry.u3 (rr hb42) (Lf (V1 (rr hb42)) (Q1 f24_0))) hd45 ?_)
 intro cs45 w44 hb45 ha45 hs45 hS
 refine ⟨nB,?_⟩
 refine wy 21 rfl (Qp Vp rfl) nB ?_
 obtain ⟨d49,hd48,hz⟩:=Qb hz
 refine w1 22 rfl (Q7 5 1 hS rfl hb45 rfl rfl (Q1 f29_0) (Q9 f29_0) rfl (Ji (rr hb45) (Lf (Yh (rr hb45)) (Q1 f29_0))) hd48 ?_)
 intro cs48 w47 hb48 ha48 hs48 hS
 refine ⟨nB,?_⟩
 refine wy 23 rfl (Qp V6 rfl) nB ?_
 obtain ⟨d52,hd51,hz⟩:=Qb hz
 refine w1 24 rfl (Q7 5 1 hS rfl hb48 rfl rfl (Q1 f34_0) (Q9 f34_0) rfl (Jj (rr hb48) (Lf (Yu (rr hb48)) (Q1 f34_0))) hd51 ?_)
 intro cs51 w50 hb51 ha51 hs51 hS
 refine ⟨nB,?_⟩
 refine wd (Qa ?_)
 refine Qh <|Qi ?_
 have ha53:=(rr hb51)
 refine Qc (Zh ta30 rfl (hS.bvB 5 rfl) (Rep.len ha53)) ?_
 obtain ⟨d56,hd55,hz⟩:=Qb hz
 refine Qt (Q7 4 6 hS rfl zb5 rfl rfl ha53 rfl rfl (Lf (rr zb5) ha53) hd55 ?_)
 intro cs55 w54 hb55 ha55 hs55 hS
 refine Qf (Qa ?_)
 cases hz
 exact Q4 (Jr (j:=4) rfl rfl (by rw [Rep.len hb55];exact ta30) hS rfl (Zk (Qm (Qm (Qm (Qm (Qm (Qm hS)))))) hE ⟨_,rfl,hb55⟩))
def clNode_l1 (fu:Nat) (x1:GCluster) (x2:Int):Nat→GNode→Int→Option (GNode × Bool)
 | 0,_,_=>none
 | n+1,d33,y34 =>
 (bif decide (y34<32) then
 (inR y34 32).bind fun _ =>
 (idxV d33.entries y34).bind fun x42 =>
 (ownedD fu x42).bind fun r47 =>
 (inR y34 32).bind fun _ =>
 (idxV d33.entries y34).bind fun x52 =>
 (setV d33.entries y34 r47).bind fun a54 =>
 (some ({ d33 with entries:=a54 }:GNode)).bind fun d56 =>
 (clNode_l1 fu x1 x2 n) d56 (IntKind.wrap .i64 (y34+1))
 else
 (inR x2 6).bind fun _ =>
 (idxV x1.down x2).bind fun x63 =>
 (some d33).bind fun d67 =>
 some (d67,x63))
def clNode_j1 (fu:Nat) (x1:GCluster) (x2:Int) (d9:GNode):Option (GNode × Bool) :=
 (inR x2 6).bind fun _ =>
 (idxV x1.nodes x2).bind fun x13 =>
 (some x13).bind fun d20 =>
 (cloneIntsD fu d20.order).bind fun r24 =>
 (some ({ d20 with order:=r24 }:GNode)).bind fun d28 =>
 clNode_l1 fu x1 x2 fu d28 0
def clNode_j2 (fu:Nat) (x1:GCluster) (x2:Int) (c73:Bool):Option (GNode × Bool) :=
 (bif c73 then
 (some ({ entries:=Zr.zd,order:=Zr.zd,values:=Zr.zd }:GNode)).bind fun d77 =>
 (some d77).bind fun d80 =>
 some (d80,false)
 else
 clNode_j1 fu x1 x2 (Zr.zd:GNode))
def clNodeD (fu:Nat) (x1:GCluster) (x2:Int):Option (GNode × Bool) :=
 (bif decide (x2<0) then
 clNode_j2 fu x1 x2 true
 else
 clNode_j2 fu x1 x2 (decide (x2≥6)))
set_option maxRecDepth 100000 in
set_option maxHeartbeats 4000000 in
theorem clNode_ok {M:Mm} {w:World} {bx1:Nat} {cx1:List Value} {x1:GCluster} {x2:Int} {fu:Nat} {r:GNode × Bool} (hS:St w (lentX [.box bx1 cx1 90]) M [.box bx1 cx1 90] w) (hcx1:rep M cx1 x1) (hz:clNodeD fu x1 x2=some r) :
    Calls Try.prog 17 #[.pointer (some ⟨bx1,0,none⟩),.int .i64 x2] w (GivesL M w [.box bx1 cx1 90] (fun M' u L' => ∃ c0,u = .tuple #[.agg c0.toArray,.bool r.2]∧L'=[.box bx1 cx1 90]∧rep M' c0 r.1)):=by
 refine Zi Try.func17 rfl 48 rfl rfl (by kernel_rfl) fun T hT => ?_
 have hT_0:T 0 = .pointer (some ⟨bx1,0,none⟩):=hT 0
 have hT_1:T 1 = .int .i64 x2:=hT 1
 clear hT
 have hE:=Qg w.heap.size (lentX [.box bx1 cx1 90]) M
 rw [clNodeD] at hz
 refine Qh <|Qi ?_
 refine Qt (Zf tz34 hS ?_)
 intro b4 w3 hb4 hS
 have zb4:rep M (Zr.zc GNode) (Zr.zd:GNode):=Zr.zr
 refine Qc (Qj (.bool false) rfl) ?_
 refine Qf (Qa ?_)
 refine Q0 (fun T' w' => ∃ M6 cs8 d9,Mm.ext w.heap.size (lentX [.box bx1 cx1 90]) M M6∧St w (lentX [.box bx1 cx1 90]) M6 [.box b4 cs8 34,.box bx1 cx1 90] w'∧rep M6 cs8 d9∧T' 0 = .pointer (some ⟨bx1,0,none⟩)∧T' 1 = .int .i64 x2∧T' 4 = .pointer (some ⟨b4,0,none⟩)∧clNode_j1 fu x1 x2 d9=some r) ?_ ?_
 have hF69:=Qg w.heap.size (lentX [.box bx1 cx1 90]) M
 refine Q0 (fun T' w' => ∃ M71 c73,Mm.ext w.heap.size (lentX [.box bx1 cx1 90]) M M71∧St w (lentX [.box bx1 cx1 90]) M71 [.box b4 (Zr.zc GNode) 34,.box bx1 cx1 90] w'∧T' 0 = .pointer (some ⟨bx1,0,none⟩)∧T' 1 = .int .i64 x2∧T' 4 = .pointer (some ⟨b4,0,none⟩)∧T' 17 = .bool c73∧clNode_j2 fu x1 x2 c73=some r) ?_ ?_
 have hF81:=Qg w.heap.size (lentX [.box bx1 cx1 90]) M
 refine Qi <|Qc (Qe (.pointer (some ⟨bx1,0,none⟩)) hT_0) <|Qc (Y_eqNil rfl rfl Vm) <|Qc (Qe (.bool false) rfl) <|Qk rfl rfl (Qe (.int .i64 x2) hT_1) <|Qk rfl rfl (Zo rfl rfl) <|Q3 2 rfl ?_
 rcases ic hz with ⟨hc82,hz⟩ | ⟨hc82,hz⟩<;>rw [hc82]
 refine Q3 3 rfl ?_
 refine Qf (Qa ?_)
 exact ⟨M,true,hF81,hS,hT_0,hT_1,rfl,rfl,hz⟩
 refine Qk rfl rfl (Qe (.int .i64 x2) hT_1) <|Qk rfl rfl (Vb rfl rfl) <|Qc (Zj (.bool (decide (x2≥6))) rfl rfl) ?_
 refine Qf (Qa ?_)
 exact ⟨M,(decide (x2≥6)),hF81,hS,hT_0,hT_1,rfl,rfl,hz⟩
 rintro T72 w70 ⟨M71,c73,hx74,hS,hT72_0,hT72_1,hT72_4,hT72_17,hz⟩
 replace zb4:=Rep.mono hx74.1 zb4
 replace hE:=Qd hE hx74
 replace hF69:=Qd hF69 hx74
 rw [clNode_j2] at hz
 refine Qs hT72_17 (fun hc75 => ?_) (fun hc75 => ?_)
 replace hz:=Qn hz hc75
 refine Qh <|Qi ?_
 obtain ⟨d77,hd76,hz⟩:=Qb hz
 obtain ⟨cs76,hf76,ha76⟩ : ∃ cs,fillZ (([(0,192),(192,1),(193,8)]:List (Nat × Nat))[·]?) (Zr.zc GNode) []=some cs∧rep M71 cs d77:=⟨_,Ya,Yb (x:=({ entries:=Zr.zd,order:=Zr.zd,values:=Zr.zd }:GNode)) (Zr.zr:rep M71 (Zr.zc GNode) (Zr.zd:GNode)) hd76⟩
 refine Qc (Zy [] tb34 Vc hf76) ?_
 obtain ⟨d80,hd79,hz⟩:=Qb hz
 refine Qt (Q7 0 201 hS rfl zb4 hT72_4 rfl ha76 rfl rfl (Lf (rr zb4) ha76) hd79 ?_)
 intro cs79 w78 hb79 ha79 hs79 hS
 refine Qc (Qj (.bool false) rfl) ?_
 refine Qf (Qa ?_)
 cases hz
 exact Q4 (Qq (R_ct (j:=0) rfl hT72_4 rfl (by rw [Rep.len hb79];exact Vj) hS rfl ⟨_,M71,_,rfl,hE,(hS.sel (H':=[.box bx1 cx1 90]) [1] (by decide) rfl),cs79,rfl,rfl,hb79⟩))
 replace hz:=Qo hz hc75
 refine Qv (Qa ?_)
 exact ⟨M71,(Zr.zc GNode),(Zr.zd:GNode),hF69,hS,zb4,hT72_0,hT72_1,hT72_4,hz⟩
 rintro T7 w5 ⟨M6,cs8,d9,hx10,hS,hb8,hT7_0,hT7_1,hT7_4,hz⟩
 replace hcx1:=Rep.mono hx10.1 hcx1
 rw [clNode_j1] at hz
 refine Qh <|Qi <|Qc (Qe (.pointer (some ⟨bx1,0,none⟩)) hT7_0) <|Qc (Qe (.int .i64 x2) hT7_1) <|Qc (Q6 rfl) <|Qc (Qp fa90_0 rfl) ?_
 obtain ⟨u11,hx12,hz⟩:=Qb hz
 obtain ⟨hx12a,hx12b⟩:=Qw hx12
 refine Qc (Zb ia86 rfl rfl hx12a hx12b) ?_
 obtain ⟨x13,hx14,hz⟩:=Qb hz
 have ha15:=(vp (k:=201) rfl rfl (Yy (rr hcx1)) hx14)
 refine Qc (Zh Vj rfl (hS.bvB 1 rfl) (Rep.len ha15)) ?_
 refine Qt (Zf tz34 hS ?_)
 intro b17 w16 hb17 hS
 have zb17:rep M6 (Zr.zc GNode) (Zr.zd:GNode):=Zr.zr
 obtain ⟨d20,hd19,hz⟩:=Qb hz
 refine Qt (Q7 0 201 hS rfl zb17 rfl rfl ha15 rfl rfl (Lf (rr zb17) ha15) hd19 ?_)
 intro cs19 w18 hb19 ha19 hs19 hS
 refine Qf (Qa ?_)
 refine Qh <|Qi <|Qc (Qp fa34_1 rfl) ?_
 obtain ⟨v21,ev21,hv21⟩:=(Ky (rr hb19))
 refine Qc (Ql v21 Z5 rfl (hS.bvB 0 rfl) ev21) ?_
 obtain ⟨r24,hr23,hz⟩:=Qb hz
 refine Qt (Zu (vs:=[v21]) (L:=[]) (R:=[.box b17 cs19 34,.box b4 cs8 34,.box bx1 cx1 90]) (rv:=(fun M' u L' => ∃ v0,u=v0∧L'=[.row v0 3 1]∧repL M' v0 r24)) cb44 (Zs rfl) hS (hS.sel [0,1,2] (by decide) rfl) (fun hS=>Vk hS.agree hv21 hr23) ?_)
 rintro u23 M23 w22 L23 hx23 ⟨v0_23,rfl,hL23,f23_0⟩ hS
 replace hS:=hS _ hL23
 replace hcx1:=Rep.mono hx23.1 hcx1
 replace hb8:=Rep.mono hx23.1 hb8
 replace hb19:=Rep.mono hx23.1 hb19
 replace hE:=Qd hE (hx10.trans hx23)
 refine Qc (Qp fa34_1 rfl) ?_
 obtain ⟨d28,hd27,hz⟩:=Qb hz
 refine Qt (Q7 1 1 hS rfl hb19 rfl rfl (Q1 f23_0) (Q9 f23_0) rfl (GNode.u1 (rr hb19) (Lf (Ky (rr hb19)) (Q1 f23_0))) hd27 ?_)
 intro cs27 w26 hb27 ha27 hs27 hS
 refine Qf (Qa ?_)
 refine Qh <|Qh <|Qi <|Qc (Qe (.int .i64 0) rfl) ?_
 refine Qf (Qa ?_)
 refine Qy ?_
 refine Zw (fun k36 T' w' => ∃ M30 cs32 d33 y34,Mm.ext w.heap.size (lentX [.box bx1 cx1 90]) M23 M30∧St w (lentX [.box bx1 cx1 90]) M30 [.row u23 3 1,.box b17 cs32 34,.box b4 cs8 34,.box bx1 cx1 90] w'∧rep M30 cs32 d33∧T' 0 = .pointer (some ⟨bx1,0,none⟩)∧T' 1 = .int .i64 x2∧T' 4 = .pointer (some ⟨b4,0,none⟩)∧T' 6 = .pointer (some ⟨b17,0,none⟩)∧T' 29 = .int .i64 y34∧clNode_l1 fu x1 x2 k36 d33 y34=some r) fu ?_ ?_ ?_
 exact ⟨M23,cs27,d28,(0:Int),(Qg _ _ _),hS,hb27,hT7_0,hT7_1,hT7_4,rfl,rfl,hz⟩
 rintro T' w' ⟨_,_,_,_,_,_,_,_,_,_,_,_,hz⟩
 rw [clNode_l1] at hz
 cases hz
 intro k36
 rintro T31 w29 ⟨M30,cs32,d33,y34,hx38,hS,hb32,hT31_0,hT31_1,hT31_4,hT31_6,hT31_29,hz⟩
 replace hcx1:=Rep.mono hx38.1 hcx1
 replace hb8:=Rep.mono hx38.1 hb8
 replace hE:=Qd hE hx38
 have hF37:=hx38
 rw [clNode_l1] at hz
 obtain ⟨rec35,hrec35⟩ : ∃ f,f=clNode_l1 fu x1 x2 k36:=⟨_,rfl⟩
 rw [← hrec35] at hz
 refine Qh <|Qi <|Qc (Zo hT31_29 rfl) ?_
 refine Qf (Qa ?_)
 refine Qh ?_
 refine Qs rfl (fun hc39 => ?_) (fun hc39 => ?_)
 replace hz:=Qn hz hc39
 refine Qv (Qa ?_)
 refine Qh <|Qy <|Qh <|Qi <|Qc (Qe (.int .i64 y34) hT31_29) <|Qc (Qj (.int .i64 y34) rfl) ?_
 refine Qf (Qa ?_)
 refine Qi <|Q3 2 rfl <|Qc (Qp Kl hT31_6) ?_
 obtain ⟨u40,hx41,hz⟩:=Qb hz
 obtain ⟨hx41a,hx41b⟩:=Qw hx41
 refine Qc (Zb ia31 rfl rfl hx41a hx41b) ?_
 obtain ⟨x42,hx43,hz⟩:=Qb hz
 have ha44:=(vp (k:=6) rfl rfl (Q5 (rr hb32)) hx43)
 refine Qc (Zh ta30 rfl (hS.bvB 1 rfl) (Rep.len ha44)) ?_
 obtain ⟨r47,hr46,hz⟩:=Qb hz
 refine Qt (Yt (vs:=[.agg (sl cs32 (0+0+Int.toNat y34*6) 6).toArray]) (rv:=(fun M' u => ∃ cs,u = .agg cs.toArray∧rep M' cs r47)) cb45 (Zs rfl) hS (owned_ok hS.agree ha44 hr46) ?_)
 intro u46 M46 w45 hx46 hu46 hS
 obtain ⟨c46,hq46,f46⟩:=hu46
 subst hq46
 replace hb32:=Rep.mono hx46.1 hb32
 replace hF37:=Qd hF37 hx46
 refine Qc (Qp Kl hT31_6) ?_
 obtain ⟨u48,hx49,hz⟩:=Qb hz
 obtain ⟨hx49a,hx49b⟩:=Qw hx49
 refine Qc (Zb ia31 rfl rfl hx49a hx49b) ?_
 obtain ⟨x52,hx53,hz⟩:=Qb hz
 obtain ⟨a54,hx55,hz⟩:=Qb hz
 obtain ⟨d56,hd51,hz⟩:=Qb hz
 refine Qt (Q7 1 6 hS rfl hb32 rfl rfl f46 rfl rfl (Yx (rr hb32) (vu (k:=6) rfl rfl (Q5 (rr hb32)) (Lf (vp (k:=6) rfl rfl (Q5 (rr hb32)) hx53) f46) hx55)) hd51 ?_)
 intro cs51 w50 hb51 ha51 hs51 hS
 refine Qf (Q8 ?_)
 refine (Qa ?_)
 refine Qi <|Qc (Zz hT31_29 rfl) <|Qc (Qe (.int .i64 (IntKind.wrap .i64 (y34+1))) rfl) ?_
 refine Qf (Qa ?_)
 exact ⟨M46,cs51,d56,(IntKind.wrap .i64 (y34+1)),hF37,hS,hb51,hT31_0,hT31_1,hT31_4,hT31_6,rfl,(by rw [← hrec35];exact hz)⟩
 replace hz:=Qo hz hc39
 refine Zp <|Qz <|Qz <|Zq ?_
 refine (Qa ?_)
 refine Qh <|Yq [.box b17 cs32 34,.box bx1 cx1 90] [] Z8 hS fun w57 hS hG58 hR59 => ?_
 have ha60:=(rr hb32)
 refine Y0 0 rfl (Zh Vj hT31_6 (Yo 0 rfl) (Rep.len ha60)) hR59 <|wy 1 rfl (Qe (.pointer (some ⟨bx1,0,none⟩)) hT31_0) (fun _=>hR59) <|wy 2 rfl (Qe (.int .i64 x2) hT31_1) (fun _=>hR59) <|wy 3 rfl (Q6 rfl) (fun _=>hR59) <|wy 4 rfl (Qp fa90_2 rfl) (fun _=>hR59) ?_
 obtain ⟨u61,hx62,hz⟩:=Qb hz
 obtain ⟨hx62a,hx62b⟩:=Qw hx62
 refine wy 5 rfl (Zb Jt rfl rfl hx62a hx62b) (fun _=>hR59) ?_
 obtain ⟨x63,hx64,hz⟩:=Qb hz
 refine Y0 6 rfl (Ql (.bool x63) Jm rfl (Yo 1 rfl) (vp (k:=1) rfl rfl (Y5 (rr hcx1)) hx64)) hR59 ?_
 obtain ⟨d67,hd66,hz⟩:=Qb hz
 refine w1 7 rfl (Q7 2 201 hS rfl hb8 hT31_4 rfl ha60 rfl rfl (Lf (rr hb8) ha60) hd66 ?_)
 intro cs66 w65 hb66 ha66 hs66 hS
 refine Yp hS hG58 fun hR68=>wy 8 rfl (Qj (.bool x63) rfl) (fun _=>hR68) ?_
 refine wd (Qa ?_)
 cases hz
 exact Q4 (R_ct (j:=2) rfl hT31_4 rfl (by rw [Rep.len hb66];exact Vj) hS rfl ⟨_,M30,_,rfl,hE,(hS.sel (H':=[.box bx1 cx1 90]) [3] (by decide) rfl),cs66,rfl,rfl,hb66⟩)
def clCase_j1 (fu:Nat) (x1:GCluster) (x2:Int) (d9:GCase):Option GCase :=
 (inR x2 32).bind fun _ =>
 (idxV x1.cases x2).bind fun x13 =>
 (some x13).bind fun d20 =>
 (cloneOpsD fu d20.ops).bind fun r28 =>
 (cloneIntsD fu d20.deps).bind fun r32 =>
 (some ({ d20 with ops:=r28 }:GCase)).bind fun d37 =>
 (some ({ d37 with deps:=r32 }:GCase)).bind fun d40 =>
 (some d40).bind fun d44 =>
 some d44
def clCase_j2 (fu:Nat) (x1:GCluster) (x2:Int) (c49:Bool):Option GCase :=
 (bif c49 then
 (some ({ begun:=Zr.zd,fixed:=Zr.zd,ops:=Zr.zd,told:=Zr.zd,known:=Zr.zd,deps:=Zr.zd,has:=Zr.zd,values:=Zr.zd }:GCase)).bind fun d53 =>
 (some d53).bind fun d56 =>
 some d56
 else
 clCase_j1 fu x1 x2 (Zr.zd:GCase))
def clCaseD (fu:Nat) (x1:GCluster) (x2:Int):Option GCase :=
 (bif decide (x2<0) then
 clCase_j2 fu x1 x2 true
 else
 clCase_j2 fu x1 x2 (decide (x2≥32)))
set_option maxRecDepth 100000 in
set_option maxHeartbeats 4000000 in
theorem clCase_ok {M:Mm} {w:World} {bx1:Nat} {cx1:List Value} {x1:GCluster} {x2:Int} {fu:Nat} {r:GCase} (hS:St w (lentX [.box bx1 cx1 90]) M [.box bx1 cx1 90] w) (hcx1:rep M cx1 x1) (hz:clCaseD fu x1 x2=some r) :
    Calls Try.prog 20 #[.pointer (some ⟨bx1,0,none⟩),.int .i64 x2] w (GivesL M w [.box bx1 cx1 90] (fun M' u L' => ∃ c0,u = .agg c0.toArray∧L'=[.box bx1 cx1 90]∧rep M' c0 r)):=by
 refine Zi Try.func20 rfl 32 rfl rfl (by kernel_rfl) fun T hT => ?_
 have hT_0:T 0 = .pointer (some ⟨bx1,0,none⟩):=hT 0
 have hT_1:T 1 = .int .i64 x2:=hT 1
 clear hT
 have hE:=Qg w.heap.size (lentX [.box bx1 cx1 90]) M
 rw [clCaseD] at hz
 refine Qh <|Qi ?_
 refine Qt (Zf tz49 hS ?_)
 intro b4 w3 hb4 hS
 have zb4:rep M (Zr.zc GCase) (Zr.zd:GCase):=Zr.zr
 refine Qf (Qa ?_)
 refine Q0 (fun T' w' => ∃ M6 cs8 d9,Mm.ext w.heap.size (lentX [.box bx1 cx1 90]) M M6∧St w (lentX [.box bx1 cx1 90]) M6 [.box b4 cs8 49,.box bx1 cx1 90] w'∧rep M6 cs8 d9∧T' 0 = .pointer (some ⟨bx1,0,none⟩)∧T' 1 = .int .i64 x2∧T' 4 = .pointer (some ⟨b4,0,none⟩)∧clCase_j1 fu x1 x2 d9=some r) ?_ ?_
 have hF45:=Qg w.heap.size (lentX [.box bx1 cx1 90]) M
 refine Q0 (fun T' w' => ∃ M47 c49,Mm.ext w.heap.size (lentX [.box bx1 cx1 90]) M M47∧St w (lentX [.box bx1 cx1 90]) M47 [.box b4 (Zr.zc GCase) 49,.box bx1 cx1 90] w'∧T' 0 = .pointer (some ⟨bx1,0,none⟩)∧T' 1 = .int .i64 x2∧T' 4 = .pointer (some ⟨b4,0,none⟩)∧T' 15 = .bool c49∧clCase_j2 fu x1 x2 c49=some r) ?_ ?_
 have hF57:=Qg w.heap.size (lentX [.box bx1 cx1 90]) M
 refine Qi <|Qc (Qe (.pointer (some ⟨bx1,0,none⟩)) hT_0) <|Qc (Y_eqNil rfl rfl Vm) <|Qc (Qe (.bool false) rfl) <|Qk rfl rfl (Qe (.int .i64 x2) hT_1) <|Qk rfl rfl (Zo rfl rfl) <|Q3 2 rfl ?_
 rcases ic hz with ⟨hc58,hz⟩ | ⟨hc58,hz⟩<;>rw [hc58]
 refine Q3 3 rfl ?_
 refine Qf (Qa ?_)
 exact ⟨M,true,hF57,hS,hT_0,hT_1,rfl,rfl,hz⟩
 refine Qk rfl rfl (Qe (.int .i64 x2) hT_1) <|Qk rfl rfl (Vb rfl rfl) <|Qc (Zj (.bool (decide (x2≥32))) rfl rfl) ?_
 refine Qf (Qa ?_)
 exact ⟨M,(decide (x2≥32)),hF57,hS,hT_0,hT_1,rfl,rfl,hz⟩
 rintro T48 w46 ⟨M47,c49,hx50,hS,hT48_0,hT48_1,hT48_4,hT48_15,hz⟩
 replace zb4:=Rep.mono hx50.1 zb4
 replace hE:=Qd hE hx50
 replace hF45:=Qd hF45 hx50
 rw [clCase_j2] at hz
 refine Qs hT48_15 (fun hc51 => ?_) (fun hc51 => ?_)
 replace hz:=Qn hz hc51
 refine Qh <|Qi ?_
 obtain ⟨d53,hd52,hz⟩:=Qb hz
 obtain ⟨cs52,hf52,ha52⟩ : ∃ cs,fillZ (([(0,1),(1,1),(2,1),(3,6),(9,6),(15,1),(16,4),(20,4)]:List (Nat × Nat))[·]?) (Zr.zc GCase) []=some cs∧rep M47 cs d53:=⟨_,Ya,Yb (x:=({ begun:=Zr.zd,fixed:=Zr.zd,ops:=Zr.zd,told:=Zr.zd,known:=Zr.zd,deps:=Zr.zd,has:=Zr.zd,values:=Zr.zd }:GCase)) (Zr.zr:rep M47 (Zr.zc GCase) (Zr.zd:GCase)) hd52⟩
 refine Qc (Zy [] tb49 Vc hf52) ?_
 obtain ⟨d56,hd55,hz⟩:=Qb hz
 refine Qt (Q7 0 24 hS rfl zb4 hT48_4 rfl ha52 rfl rfl (Lf (rr zb4) ha52) hd55 ?_)
 intro cs55 w54 hb55 ha55 hs55 hS
 refine Qf (Qa ?_)
 cases hz
 exact Q4 (Qq (Jr (j:=0) rfl hT48_4 (by rw [Rep.len hb55];exact Y9) hS rfl ⟨_,M47,_,rfl,hE,(hS.sel (H':=[.box bx1 cx1 90]) [1] (by decide) rfl),cs55,rfl,rfl,hb55⟩))
 replace hz:=Qo hz hc51
 refine Qv (Qa ?_)
 exact ⟨M47,(Zr.zc GCase),(Zr.zd:GCase),hF45,hS,zb4,hT48_0,hT48_1,hT48_4,hz⟩
 rintro T7 w5 ⟨M6,cs8,d9,hx10,hS,hb8,hT7_0,hT7_1,hT7_4,hz⟩
 replace hcx1:=Rep.mono hx10.1 hcx1
 rw [clCase_j1] at hz
 refine Qh <|Qi <|Qc (Qe (.pointer (some ⟨bx1,0,none⟩)) hT7_0) <|Qc (Qe (.int .i64 x2) hT7_1) <|Qc (Q6 rfl) <|Qc (Qp fa90_4 rfl) ?_
 obtain ⟨u11,hx12,hz⟩:=Qb hz
 obtain ⟨hx12a,hx12b⟩:=Qw hx12
 refine Qc (Zb ia88 rfl rfl hx12a hx12b) ?_
 obtain ⟨x13,hx14,hz⟩:=Qb hz
 have ha15:=(vp (k:=24) rfl rfl (Vd (rr hcx1)) hx14)
 refine Qc (Zh Y9 rfl (hS.bvB 1 rfl) (Rep.len ha15)) ?_
 refine Qt (Zf tz49 hS ?_)
 intro b17 w16 hb17 hS
 have zb17:rep M6 (Zr.zc GCase) (Zr.zd:GCase):=Zr.zr
 obtain ⟨d20,hd19,hz⟩:=Qb hz
 refine Qt (Q7 0 24 hS rfl zb17 rfl rfl ha15 rfl rfl (Lf (rr zb17) ha15) hd19 ?_)
 intro cs19 w18 hb19 ha19 hs19 hS
 refine Qf (Qa ?_)
 refine Qh <|Yq [.box b17 cs19 49] [7,9] Z8 hS fun w21 hS hG22 hR23=>wy 0 rfl (Qp Vx rfl) (fun _=>hR23) ?_
 obtain ⟨v24,ev24,hv24⟩:=(Yv (rr hb19))
 refine Y0 1 rfl (Ql v24 Vn rfl (Yo 0 rfl) ev24) hR23 <|wy 3 rfl (Qp Kz rfl) (fun _=>hR23) ?_
 obtain ⟨v25,ev25,hv25⟩:=(Vy (rr hb19))
 refine Y0 4 rfl (Ql v25 Z5 rfl (Yo 0 rfl) ev25) hR23 ?_
 obtain ⟨r28,hr27,hz⟩:=Qb hz
 refine w1 2 rfl (Yt (vs:=[v24]) (rv:=(fun M' u=>repL M' u r28)) cb53 (Zs rfl) hS (cloneOps_ok hS.agree hv24 hr27) ?_)
 intro u27 M27 w26 hx27 hu27 hS
 have f27:repL M27 u27 r28:=hu27
 replace hv25:=Qu hx27.1 hv25
 replace hG22:=Qd hG22 hx27
 refine Yp hS hG22 fun hR29=>wy 6 rfl (Qp Vx rfl) (fun _=>hR29) ?_
 obtain ⟨r32,hr31,hz⟩:=Qb hz
 refine w1 5 rfl (Zu (vs:=[v25]) (L:=[]) (R:=[.box b17 cs19 49,.box b4 cs8 49,.box bx1 cx1 90]) (rv:=(fun M' u L' => ∃ v0,u=v0∧L'=[.row v0 3 1]∧repL M' v0 r32)) cb44 (Zs rfl) hS (hS.sel [0,1,2] (by decide) rfl) (fun hS=>Vk hS.agree hv25 hr31) ?_)
 rintro u31 M31 w30 L31 hx31 ⟨v0_31,rfl,hL31,f31_0⟩ hS
 replace hS:=hS _ hL31
 replace hb8:=Rep.mono (hx27.1.trans hx31.1) hb8
 replace hb19:=Rep.mono (hx27.1.trans hx31.1) hb19
 replace f27:=Qu hx31.1 f27
 replace hE:=Qd hE (hx10.trans (hx27.trans hx31))
 replace hG22:=Qd hG22 hx31
 refine Yp hS hG22 fun hR34 => ?_
 obtain ⟨d37,hd36,hz⟩:=Qb hz
 refine w1 7 rfl (Q7 1 1 hS rfl hb19 rfl rfl (Q1 f27) (Q9 f27) rfl (GCase.u2 (rr hb19) (Lf (Yv (rr hb19)) (Q1 f27))) hd36 ?_)
 intro cs36 w35 hb36 ha36 hs36 hS
 refine ⟨nB,?_⟩
 refine wy 8 rfl (Qp Kz rfl) nB ?_
 obtain ⟨d40,hd39,hz⟩:=Qb hz
 refine w1 9 rfl (Q7 1 1 hS rfl hb36 rfl rfl (Q1 f31_0) (Q9 f31_0) rfl (GCase.u5 (rr hb36) (Lf (Vy (rr hb36)) (Q1 f31_0))) hd39 ?_)
 intro cs39 w38 hb39 ha39 hs39 hS
 refine ⟨nB,?_⟩
 refine wd (Qa ?_)
 refine Qh <|Qi ?_
 have ha41:=(rr hb39)
 refine Qc (Zh Y9 rfl (hS.bvB 1 rfl) (Rep.len ha41)) ?_
 obtain ⟨d44,hd43,hz⟩:=Qb hz
 refine Qt (Q7 2 24 hS rfl hb8 hT7_4 rfl ha41 rfl rfl (Lf (rr hb8) ha41) hd43 ?_)
 intro cs43 w42 hb43 ha43 hs43 hS
 refine Qf (Qa ?_)
 cases hz
 exact Q4 (Jr (j:=2) rfl hT7_4 (by rw [Rep.len hb43];exact Y9) hS rfl ⟨_,M31,_,rfl,hE,(hS.sel (H':=[.box bx1 cx1 90]) [3] (by decide) rfl),cs43,rfl,rfl,hb43⟩)
def clNetD (fu:Nat) (x1:GCluster) (l3:List ByteArray):Option ((List ByteArray) × (List ByteArray)) :=
 (cloneStrsD fu l3).bind fun l6 =>
 some (l6,l3)
set_option maxRecDepth 100000 in
set_option maxHeartbeats 4000000 in
theorem clNet_ok {M:Mm} {w:World} {bx1:Nat} {cx1:List Value} {ux1_6:Value} {xsx1_6:List Value} {x1:GCluster} {l3:List ByteArray} {fu:Nat} {r:(List ByteArray) × (List ByteArray)} (hS:St w (lentX [.box bx1 cx1 90,.stk ux1_6 9 1 xsx1_6]) M [.box bx1 cx1 90,.stk ux1_6 9 1 xsx1_6] w) (hcx1:rep M cx1 x1) (hkx1_6:skr M ux1_6 xsx1_6 l3) (hpx1_6:sl cx1 1993 1=[ux1_6]) (hz:clNetD fu x1 l3=some r) :
    Calls Try.prog 32 #[.pointer (some ⟨bx1,0,none⟩)] w (GivesL M w [.box bx1 cx1 90,.stk ux1_6 9 1 xsx1_6] (fun M' u L' => ∃ v0 u1 x1,u=v0∧L'=[.box bx1 cx1 90,.stk u1 9 1 x1]∧repL M' v0 r.1∧skr M' u1 x1 r.2∧sl cx1 1993 1=[u1])):=by
 refine Zi Try.func32 rfl 10 rfl rfl (by kernel_rfl) fun T hT => ?_
 have hT_0:T 0 = .pointer (some ⟨bx1,0,none⟩):=hT 0
 clear hT
 have hE:=Qg w.heap.size (lentX [.box bx1 cx1 90,.stk ux1_6 9 1 xsx1_6]) M
 rw [clNetD] at hz
 refine Qh <|Qi <|Qc (Qj ((.slice none 0 0)) rfl) ?_
 refine Qf (Qa ?_)
 refine Qh <|Qh <|Qi <|Qc (Qe (.pointer (some ⟨bx1,0,none⟩)) hT_0) <|Qc (Y_eqNil rfl rfl Vm) ?_
 refine Qf (Qa ?_)
 refine W_cond_f rfl ?_
 refine Qv (Qa ?_)
 refine Qh <|Qi <|Qc (Qe (.pointer (some ⟨bx1,0,none⟩)) hT_0) <|Qc (Q6 rfl) <|Qc (Qp Jq rfl) <|Qc (Ql ux1_6 ts72 rfl (hS.bvB 0 rfl) hpx1_6) ?_
 obtain ⟨l6,hr5,hz⟩:=Qb hz
 refine Qt (O_lentS (j:=1) cb59 (Zs rfl) hS rfl hkx1_6 (fun hA hv=>cloneStrs_ok hA hv hr5) ?_)
 intro v5 M5 w4 hx5 hv5 hS
 replace hkx1_6:=Zv hx5.1 hkx1_6
 replace hE:=Qd hE hx5
 refine Qc (Qj (v5) rfl) ?_
 refine Qf (Qa ?_)
 cases hz
 exact Q4 (Yg rfl rfl ⟨_,M5,_,rfl,hE,(hS.sel (H':=[.box bx1 cx1 90,.stk ux1_6 9 1 xsx1_6]) [1,2] (by decide) rfl),v5,ux1_6,xsx1_6,rfl,rfl,hv5,hkx1_6,hpx1_6⟩)
def clNoD (fu:Nat) (x1:Int):Option GReply :=
 (some ({ code:=x1,n:=Zr.zd,values:=Zr.zd }:GReply)).bind fun d5 =>
 (some d5).bind fun d8 =>
 some d8
set_option maxRecDepth 100000 in
set_option maxHeartbeats 4000000 in
theorem clNo_ok {M:Mm} {w:World} {x1:Int} {fu:Nat} {r:GReply} (hA:Agree M w)  (hz:clNoD fu x1=some r) :
    Calls Try.prog 46 #[.int .i64 x1] w (Gives M w (fun M' u => ∃ cs,u = .agg cs.toArray∧rep M' cs r)):=by
 refine Zi Try.func46 rfl 5 rfl rfl (by kernel_rfl) fun T hT => ?_
 have hT_0:T 0 = .int .i64 x1:=hT 0
 clear hT
 have hE:=Qg w.heap.size noX M
 have hS:St w noX M [] w:=Zt hA
 rw [clNoD] at hz
 refine Qh <|Qi ?_
 refine Qt (Zf tz40 hS ?_)
 intro b3 w2 hb3 hS
 have zb3:rep M (Zr.zc GReply) (Zr.zd:GReply):=Zr.zr
 refine Qf (Qa ?_)
 refine Qh <|Qi <|Qc (Qe (.int .i64 x1) hT_0) ?_
 have k4_0:=V2 (Zr.zr:rep M (Zr.zc GReply) (Zr.zd:GReply)) (ri x1:rep M _ _)
 obtain ⟨d5,hd4,hz⟩:=Qb hz
 obtain ⟨cs4,hf4,ha4⟩ : ∃ cs,fillZ (([(0,1),(1,1),(2,1)]:List (Nat × Nat))[·]?) (Zr.zc GReply) [(0,.int .i64 x1)]=some cs∧rep M cs d5:=⟨_,(Zd (Zr.zr:rep M (Zr.zc GReply) (Zr.zd:GReply)) rfl rfl (Rep.len (ri x1:rep M _ _)) (by decide) Ya),Yb (x:=({ code:=x1,n:=Zr.zd,values:=Zr.zd }:GReply)) k4_0 hd4⟩
 refine Qc (Zy [(0,.int .i64 x1)] tb40 (Yr rfl Vc) hf4) ?_
 obtain ⟨d8,hd7,hz⟩:=Qb hz
 refine Qt (Q7 0 3 hS rfl zb3 rfl rfl ha4 rfl rfl (Lf (rr zb3) ha4) hd7 ?_)
 intro cs7 w6 hb7 ha7 hs7 hS
 refine Qf (Qa ?_)
 cases hz
 exact Q4 (Jr (j:=0) rfl rfl (by rw [Rep.len hb7];exact Kq) hS rfl (Zk (Qm hS) hE ⟨_,rfl,hb7⟩))
def clSend_j1 (y16:Int) (rec17:GCluster→(List ByteArray)→Int→Option (GCluster × (List ByteArray))) (d26:GCluster) (l29:List ByteArray):Option (GCluster × (List ByteArray)) :=
 rec17 d26 l29 (IntKind.wrap .i64 (y16+1))
def clSend_j2 (d10:GCluster) (l13:List ByteArray) (y16:Int) (rec17:GCluster→(List ByteArray)→Int→Option (GCluster × (List ByteArray))) (r45:ByteArray × Int) (c49:Bool):Option (GCluster × (List ByteArray)) :=
 (bif c49 then
 (chkS r45.1).bind fun _ =>
 (app l13 ([r45.1]:List ByteArray)).bind fun l57 =>
 (some ({ d10 with net:=Hole.mk }:GCluster)).bind fun d60 =>
 clSend_j1 y16 rec17 d60 l57
 else
 clSend_j1 y16 rec17 d10 l13)
def clSend_l1 (fu:Nat) (x4:List GFrame):Nat→GCluster→(List ByteArray)→Int→Option (GCluster × (List ByteArray))
 | 0,_,_,_=>none
 | n+1,d10,l13,y16 =>
 (bif decide (y16<(x4.length:Int)) then
 (idx x4 y16).bind fun x35 =>
 (some x35).bind fun d41 =>
 (encodeD fu d41).bind fun r45 =>
 (bif r45.2==0 then
 clSend_j2 d10 l13 y16 (clSend_l1 fu x4 n) r45 (decide ((l13.length:Int)<60))
 else
 clSend_j2 d10 l13 y16 (clSend_l1 fu x4 n) r45 false)
 else
 some (d10,l13))
def clSendD (fu:Nat) (x1:GCluster) (l3:List ByteArray) (x4:List GFrame):Option (GCluster × (List ByteArray)) :=
 clSend_l1 fu x4 fu x1 l3 0
set_option maxRecDepth 100000 in
set_option maxHeartbeats 4000000 in
theorem clSend_ok {M:Mm} {w:World} {bx1:Nat} {cx1:List Value} {ux1_6:Value} {xsx1_6:List Value} {vx4:Value} {x1:GCluster} {l3:List ByteArray} {x4:List GFrame} {fu:Nat} {r:GCluster × (List ByteArray)} (hS:St w (lentX [.box bx1 cx1 90,.stk ux1_6 9 1 xsx1_6]) M [.box bx1 cx1 90,.stk ux1_6 9 1 xsx1_6] w) (hcx1:rep M cx1 x1) (hkx1_6:skr M ux1_6 xsx1_6 l3) (hpx1_6:sl cx1 1993 1=[ux1_6]) (hvx4:repL M vx4 x4) (hz:clSendD fu x1 l3 x4=some r) :
    Calls Try.prog 49 #[.pointer (some ⟨bx1,0,none⟩),vx4] w (GivesL M w [.box bx1 cx1 90,.stk ux1_6 9 1 xsx1_6] (fun M' u L' => ∃ k0 u1 x1,u = .tuple #[]∧L'=[.box bx1 k0 90,.stk u1 9 1 x1]∧rep M' k0 r.1∧skr M' u1 x1 r.2∧sl k0 1993 1=[u1])):=by
 refine Zi Try.func49 rfl 40 rfl rfl (by kernel_rfl) fun T hT => ?_
 have hT_0:T 0 = .pointer (some ⟨bx1,0,none⟩):=hT 0
 have hT_1:T 1=vx4:=hT 1
 clear hT
 have hE:=Qg w.heap.size (lentX [.box bx1 cx1 90,.stk ux1_6 9 1 xsx1_6]) M
 rw [clSendD] at hz
 refine Qh <|Qi <|Qc (Qe (vx4) hT_1) ?_
 obtain ⟨a5,c5,hv5,_⟩:=Q2 hvx4
 refine Qc (Zg Try.underlying96 (Vq hv5 rfl)) <|Qc (Qe (.int .i64 0) rfl) ?_
 refine Qf (Qa ?_)
 refine Qy ?_
 refine Zw (fun k18 T' w' => ∃ M7 cs9 d10 v11 xs12 l13 y16,Mm.ext w.heap.size (lentX [.box bx1 cx1 90,.stk ux1_6 9 1 xsx1_6]) M M7∧St w (lentX [.box bx1 cx1 90,.stk ux1_6 9 1 xsx1_6]) M7 [.box bx1 cs9 90,.stk v11 9 1 xs12] w'∧rep M7 cs9 d10∧skr M7 v11 xs12 l13∧sl cs9 (0+1993) 1=[v11]∧T' 0 = .pointer (some ⟨bx1,0,none⟩)∧T' 8=vx4∧T' 9 = .int .i64 (x4.length:Int)∧T' 10 = .int .i64 y16∧clSend_l1 fu x4 k18 d10 l13 y16=some r) fu ?_ ?_ ?_
 exact ⟨M,cx1,x1,ux1_6,xsx1_6,l3,(0:Int),(Qg _ _ _),hS,hcx1,hkx1_6,hpx1_6,hT_0,rfl,rfl,rfl,hz⟩
 rintro T' w' ⟨_,_,_,_,_,_,_,_,_,_,_,_,_,_,_,_,hz⟩
 rw [clSend_l1] at hz
 cases hz
 intro k18
 rintro T8 w6 ⟨M7,cs9,d10,v11,xs12,l13,y16,hx20,hS,hb9,hk14,hp15,hT8_0,hT8_8,hT8_9,hT8_10,hz⟩
 replace hvx4:=Qu hx20.1 hvx4
 replace hE:=Qd hE hx20
 have hF19:=hx20
 rw [clSend_l1] at hz
 obtain ⟨rec17,hrec17⟩ : ∃ f,f=clSend_l1 fu x4 k18:=⟨_,rfl⟩
 rw [← hrec17] at hz
 refine Qh <|Qi <|Qc (Zo hT8_10 hT8_9) ?_
 refine Qf (Qa ?_)
 refine Qh ?_
 refine Qs rfl (fun hc21 => ?_) (fun hc21 => ?_)
 replace hz:=Qn hz hc21
 refine Qv (Qa ?_)
 refine Q0 (fun T' w' => ∃ M23 cs25 d26 v27 xs28 l29,Mm.ext w.heap.size (lentX [.box bx1 cx1 90,.stk ux1_6 9 1 xsx1_6]) M7 M23∧St w (lentX [.box bx1 cx1 90,.stk ux1_6 9 1 xsx1_6]) M23 [.box bx1 cs25 90,.stk v27 9 1 xs28] w'∧rep M23 cs25 d26∧skr M23 v27 xs28 l29∧sl cs25 (0+1993) 1=[v27]∧T' 0 = .pointer (some ⟨bx1,0,none⟩)∧T' 8=vx4∧T' 9 = .int .i64 (x4.length:Int)∧T' 10 = .int .i64 y16∧clSend_j1 y16 rec17 d26 l29=some r) ?_ ?_
 have hF33:=Qg w.heap.size (lentX [.box bx1 cx1 90,.stk ux1_6 9 1 xsx1_6]) M7
 refine Qy <|Qh <|Qi ?_
 obtain ⟨x35,hx34,hz⟩:=Qb hz
 obtain ⟨b34,o34,c34,p34,hv34,hi34,hj34,hM34,hr34⟩:=Z6 hvx4 hx34
 replace hr34:rep _ (sl p34 (o34+Int.toNat y16*7) 7) x35:=hr34
 refine Qc (Yj il96 hT8_8 hv34 hT8_10 hi34 hj34) ?_
 have ha36:=hr34
 refine Qc (Zh K7 rfl (hS.bvM hM34) (Rep.len ha36)) ?_
 refine Qt (Zf tz118 hS ?_)
 intro b38 w37 hb38 hS
 have zb38:rep M7 (Zr.zc GFrame) (Zr.zd:GFrame):=Zr.zr
 obtain ⟨d41,hd40,hz⟩:=Qb hz
 refine Qt (Q7 0 7 hS rfl zb38 rfl rfl ha36 rfl rfl (Lf (rr zb38) ha36) hd40 ?_)
 intro cs40 w39 hb40 ha40 hs40 hS
 refine Qf (Qa ?_)
 refine Qh <|Qi ?_
 have ha42:=(rr hb40)
 refine Qc (Zh K7 rfl (hS.bvB 0 rfl) (Rep.len ha42)) ?_
 obtain ⟨r45,hr44,hz⟩:=Qb hz
 refine Qt (Z4 (vs:=[.agg (sl cs40 (0) 7).toArray]) (v := .tuple #[.string r45.1,.int .i64 r45.2]) cb70 (Zs rfl) hS (encode_ok hS.agree ha42 hr44) ?_)
 intro w43 hS
 refine Qc (Qe (.tuple #[.string r45.1,.int .i64 r45.2]) rfl) <|Qc (Za (v := .string r45.1) rfl rfl) <|Qc (Za (v := .int .i64 r45.2) rfl rfl) <|Q3 2 rfl ?_
 refine Qf (Qa ?_)
 refine Q0 (fun T' w' => ∃ M47 c49,Mm.ext w.heap.size (lentX [.box bx1 cx1 90,.stk ux1_6 9 1 xsx1_6]) M7 M47∧St w (lentX [.box bx1 cx1 90,.stk ux1_6 9 1 xsx1_6]) M47 [.box b38 cs40 118,.box bx1 cs9 90,.stk v11 9 1 xs12] w'∧T' 0 = .pointer (some ⟨bx1,0,none⟩)∧T' 6 = .string r45.1∧T' 8=vx4∧T' 9 = .int .i64 (x4.length:Int)∧T' 10 = .int .i64 y16∧T' 28 = .bool c49∧clSend_j2 d10 l13 y16 rec17 r45 c49=some r) ?_ ?_
 have hF62:=Qg w.heap.size (lentX [.box bx1 cx1 90,.stk ux1_6 9 1 xsx1_6]) M7
 refine Qi <|Qc (Qe (.int .i64 r45.2) rfl) <|Qc (Yd rfl rfl) <|Qc (Qe (.bool (r45.2==0)) rfl) ?_
 rcases ic hz with ⟨hc63,hz⟩ | ⟨hc63,hz⟩<;>rw [hc63]
 refine Qk rfl rfl (Qe (.pointer (some ⟨bx1,0,none⟩)) hT8_0) <|Qk rfl rfl (Q6 rfl) <|Qk rfl rfl (Qp Jq rfl) <|Qk rfl rfl (Ql v11 ts72 rfl (hS.bvB 1 rfl) hp15) ?_
 obtain ⟨a64,c64,hv64,_⟩:=Vi hk14
 refine Qk rfl rfl (Zg Vl (Vq hv64 rfl)) <|Qk rfl rfl (Zo rfl rfl) <|Qc (Zx (.bool (decide ((l13.length:Int)<60))) rfl rfl) ?_
 refine Qf (Qa ?_)
 exact ⟨M7,(decide ((l13.length:Int)<60)),hF62,hS,hT8_0,rfl,hT8_8,hT8_9,hT8_10,rfl,hz⟩
 refine Q3 7 rfl ?_
 refine Qf (Qa ?_)
 exact ⟨M7,false,hF62,hS,hT8_0,rfl,hT8_8,hT8_9,hT8_10,rfl,hz⟩
 rintro T48 w46 ⟨M47,c49,hx50,hS,hT48_0,hT48_6,hT48_8,hT48_9,hT48_10,hT48_28,hz⟩
 replace hb9:=Rep.mono hx50.1 hb9
 replace hk14:=Zv hx50.1 hk14
 replace hF33:=Qd hF33 hx50
 rw [clSend_j2] at hz
 refine Qs hT48_28 (fun hc51 => ?_) (fun hc51 => ?_)
 replace hz:=Qn hz hc51
 refine Qi <|Qc (Qe (.pointer (some ⟨bx1,0,none⟩)) hT48_0) <|Qc (Qe (.pointer (some ⟨bx1,0,none⟩)) hT48_0) <|Qc (Q6 rfl) <|Qc (Qp Jq rfl) <|Qc (Ql v11 ts72 rfl (hS.bvB 1 rfl) hp15) <|Qc (Qe (.string r45.1) hT48_6) ?_
 obtain ⟨_,hx53,hz⟩:=Qb hz
 have hx53:=Kf hx53
 refine Qt (Z0 (α := ByteArray) (l:=([r45.1]:List ByteArray)) [.string r45.1] tl72 (Yr rfl Vc) rfl rfl (by decide) (by decide) (by decide) hS (K6 (Vz hx53:rep M47 [Value.string r45.1] r45.1) Jl) ?_)
 intro v54 M54 w52 hx54 hv54 hS
 replace hb9:=Rep.mono hx54.1 hb9
 replace hk14:=Zv hx54.1 hk14
 replace hF33:=Qd hF33 hx54
 obtain ⟨l57,hr56,hz⟩:=Qb hz
 obtain ⟨hy56,hs56⟩:=Z1 hr56
 refine Qt (O_appS (α := ByteArray) (j:=2) tp72 hS rfl rfl rfl hk14 hv54 hy56 ?_)
 intro v56 xs56 w55 hk56 hS
 rw [← hs56] at hk56
 clear hr56 hs56
 refine Qc (Q6 rfl) <|Qc (Qp Jq rfl) ?_
 obtain ⟨d60,hd59,hz⟩:=Qb hz
 refine Qt (Q7 1 1 hS rfl hb9 rfl rfl (Kj hk56) (skr_cells hk56) rfl (GCluster.u6 (rr hb9) (Lf (GCluster.p6 (rr hb9)) (Kj hk56))) hd59 ?_)
 intro cs59 w58 hb59 ha59 hs59 hS
 have hp61:=hs59
 refine Qf (Q8 ?_)
 refine (Qa ?_)
 exact ⟨M54,cs59,d60,v56,xs56,l57,hF33,(Y3 hS hb38),hb59,hk56,hp61,hT48_0,hT48_8,hT48_9,hT48_10,hz⟩
 replace hz:=Qo hz hc51
 refine Qv (Q8 ?_)
 refine (Qa ?_)
 exact ⟨M47,cs9,d10,v11,xs12,l13,hF33,(Y3 hS hb38),hb9,hk14,hp15,hT48_0,hT48_8,hT48_9,hT48_10,hz⟩
 rintro T24 w22 ⟨M23,cs25,d26,v27,xs28,l29,hx32,hS,hb25,hk30,hp31,hT24_0,hT24_8,hT24_9,hT24_10,hz⟩
 replace hF19:=Qd hF19 hx32
 rw [clSend_j1] at hz
 refine Qi <|Qc (Zz hT24_10 rfl) <|Qc (Qe (.int .i64 (IntKind.wrap .i64 (y16+1))) rfl) ?_
 refine Qf (Qa ?_)
 exact ⟨M23,cs25,d26,v27,xs28,l29,(IntKind.wrap .i64 (y16+1)),hF19,hS,hb25,hk30,hp31,hT24_0,hT24_8,hT24_9,rfl,(by rw [← hrec17];exact hz)⟩
 replace hz:=Qo hz hc21
 refine Zp <|Qz <|Qz <|Zq ?_
 cases hz
 exact (RetQ_ret (R_t0 rfl  ⟨_,M7,_,rfl,hE,(hS.sel (H':=[.box bx1 cs9 90,.stk v11 9 1 xs12]) [0,1] (by decide) rfl),cs9,v11,xs12,rfl,rfl,hb9,hk14,hp15⟩))
def clBeginD (fu:Nat) (x1:GCluster) (l3:List ByteArray) (x4:List GOp):Option (GReply × GCluster × (List ByteArray)) :=
 (bif decide (x1.begun≥32) then
 (some ({ code:=5,n:=Zr.zd,values:=Zr.zd }:GReply)).bind fun d9 =>
 (some d9).bind fun d12 =>
 some (d12,x1,l3)
 else
 (some ({ id:=x1.begun,ops:=x4 }:GTxn)).bind fun d14 =>
 (postBeginD fu d14).bind fun r17 =>
 (some r17.1).bind fun d22 =>
 (bif r17.2.2 != 0 then
 (some ({ code:=r17.2.2,n:=Zr.zd,values:=Zr.zd }:GReply)).bind fun d25 =>
 (some d25).bind fun d28 =>
 some (d28,x1,l3)
 else
 (inR x1.begun 32).bind fun _ =>
 (idxV x1.cases x1.begun).bind fun x37 =>
 (setV x1.cases x1.begun d22).bind fun a39 =>
 (some ({ x1 with cases:=a39 }:GCluster)).bind fun d41 =>
 (some ({ d41 with begun:=IntKind.wrap .i64 (d41.begun+1) }:GCluster)).bind fun d46 =>
 (clSendD fu d46 l3 r17.2.1).bind fun r50 =>
 (some ({ code:=Zr.zd,n:=IntKind.wrap .i64 (r50.1.begun-1),values:=Zr.zd }:GReply)).bind fun d52 =>
 (some d52).bind fun d55 =>
 some (d55,r50.1,r50.2)))
set_option maxRecDepth 100000 in
set_option maxHeartbeats 4000000 in
theorem clBegin_ok {M:Mm} {w:World} {bx1:Nat} {cx1:List Value} {ux1_6:Value} {xsx1_6:List Value} {vx4:Value} {x1:GCluster} {l3:List ByteArray} {x4:List GOp} {fu:Nat} {r:GReply × GCluster × (List ByteArray)} (hS:St w (lentX [.box bx1 cx1 90,.stk ux1_6 9 1 xsx1_6]) M [.box bx1 cx1 90,.stk ux1_6 9 1 xsx1_6] w) (hcx1:rep M cx1 x1) (hkx1_6:skr M ux1_6 xsx1_6 l3) (hpx1_6:sl cx1 1993 1=[ux1_6]) (hvx4:repL M vx4 x4) (hz:clBeginD fu x1 l3 x4=some r) :
    Calls Try.prog 47 #[.pointer (some ⟨bx1,0,none⟩),vx4] w (GivesL M w [.box bx1 cx1 90,.stk ux1_6 9 1 xsx1_6] (fun M' u L' => ∃ c0 k0 u1 x1,u = .agg c0.toArray∧L'=[.box bx1 k0 90,.stk u1 9 1 x1]∧rep M' c0 r.1∧rep M' k0 r.2.1∧skr M' u1 x1 r.2.2∧sl k0 1993 1=[u1])):=by
 refine Zi Try.func47 rfl 54 rfl rfl (by kernel_rfl) fun T hT => ?_
 have hT_0:T 0 = .pointer (some ⟨bx1,0,none⟩):=hT 0
 have hT_1:T 1=vx4:=hT 1
 clear hT
 have hE:=Qg w.heap.size (lentX [.box bx1 cx1 90,.stk ux1_6 9 1 xsx1_6]) M
 rw [clBeginD] at hz
 refine Qh <|Qi ?_
 refine Qt (Zf tz40 hS ?_)
 intro b6 w5 hb6 hS
 have zb6:rep M (Zr.zc GReply) (Zr.zd:GReply):=Zr.zr
 refine Qf (Qa ?_)
 refine Qh <|Qh <|Qi <|Qc (Qe (.pointer (some ⟨bx1,0,none⟩)) hT_0) <|Qc (Q6 rfl) <|Qc (Qp fa90_5 rfl) <|Qc (Ql (.int .i64 x1.begun) Z9 rfl (hS.bvB 1 rfl) (Vv (rr hcx1))) <|Qc (Vb rfl rfl) ?_
 refine Qf (Qa ?_)
 refine Qs rfl (fun hc7 => ?_) (fun hc7 => ?_)
 replace hz:=Qn hz hc7
 refine Qh <|Qi ?_
 have k8_0:=V2 (Zr.zr:rep M (Zr.zc GReply) (Zr.zd:GReply)) (ri 5:rep M _ _)
 obtain ⟨d9,hd8,hz⟩:=Qb hz
 obtain ⟨cs8,hf8,ha8⟩ : ∃ cs,fillZ (([(0,1),(1,1),(2,1)]:List (Nat × Nat))[·]?) (Zr.zc GReply) [(0,.int .i64 5)]=some cs∧rep M cs d9:=⟨_,(Zd (Zr.zr:rep M (Zr.zc GReply) (Zr.zd:GReply)) rfl rfl (Rep.len (ri 5:rep M _ _)) (by decide) Ya),Yb (x:=({ code:=5,n:=Zr.zd,values:=Zr.zd }:GReply)) k8_0 hd8⟩
 refine Qc (Zy [(0,.int .i64 5)] tb40 (Yr rfl Vc) hf8) ?_
 obtain ⟨d12,hd11,hz⟩:=Qb hz
 refine Qt (Q7 0 3 hS rfl zb6 rfl rfl ha8 rfl rfl (Lf (rr zb6) ha8) hd11 ?_)
 intro cs11 w10 hb11 ha11 hs11 hS
 refine Qf (Qa ?_)
 cases hz
 exact Q4 (Qq (Jr (j:=0) rfl rfl (by rw [Rep.len hb11];exact Kq) hS rfl ⟨_,M,_,rfl,hE,(hS.sel (H':=[.box bx1 cx1 90,.stk ux1_6 9 1 xsx1_6]) [1,2] (by decide) rfl),cs11,cx1,ux1_6,xsx1_6,rfl,rfl,hb11,hcx1,hkx1_6,hpx1_6⟩))
 replace hz:=Qo hz hc7
 refine Qv (Qa ?_)
 refine Qh <|Qi <|Qc (Qe (.pointer (some ⟨bx1,0,none⟩)) hT_0) <|Qc (Q6 rfl) <|Qc (Qp fa90_5 rfl) <|Qc (Ql (.int .i64 x1.begun) Z9 rfl (hS.bvB 1 rfl) (Vv (rr hcx1))) <|Qc (Qe (vx4) hT_1) ?_
 have k13_0:=GTxn.w0 (Zr.zr:rep M (Zr.zc GTxn) (Zr.zd:GTxn)) (ri x1.begun:rep M _ _)
 have k13_1:=GTxn.w1 k13_0 (Q1 hvx4)
 obtain ⟨d14,hd13,hz⟩:=Qb hz
 obtain ⟨cs13,hf13,ha13⟩ : ∃ cs,fillZ (([(0,1),(1,1)]:List (Nat × Nat))[·]?) (Zr.zc GTxn) [(0,.int .i64 x1.begun),(1,vx4)]=some cs∧rep M cs d14:=⟨_,(Zd (Zr.zr:rep M (Zr.zc GTxn) (Zr.zd:GTxn)) rfl rfl (Rep.len (ri x1.begun:rep M _ _)) (by decide) (Zd k13_0 rfl (Q9 hvx4) (Rep.len (Q1 hvx4)) (by decide) Ya)),Yb (x:=({ id:=x1.begun,ops:=x4 }:GTxn)) k13_1 hd13⟩
 refine Qc (Zy [(0,.int .i64 x1.begun),(1,vx4)] tb115 (Yr rfl (Yr rfl Vc)) hf13) ?_
 obtain ⟨r17,hr16,hz⟩:=Qb hz
 refine Qt (Yt (vs:=[.agg cs13.toArray]) (rv:=(fun M' u => ∃ c0 v1,u = .tuple #[.agg c0.toArray,v1,.int .i64 r17.2.2]∧rep M' c0 r17.1∧repL M' v1 r17.2.1)) cb65 (Zs rfl) hS (postBegin_ok hS.agree ha13 hr16) ?_)
 intro u16 M16 w15 hx16 hu16 hS
 obtain ⟨c16_0,v16_1,hq16,f16_0,f16_1⟩:=hu16
 subst hq16
 replace hcx1:=Rep.mono hx16.1 hcx1
 replace hkx1_6:=Zv hx16.1 hkx1_6
 replace zb6:=Rep.mono hx16.1 zb6
 replace hE:=Qd hE hx16
 refine Qc (Qe (.tuple #[.agg c16_0.toArray,v16_1,.int .i64 r17.2.2]) rfl) <|Qc (Za (v := .agg c16_0.toArray) rfl rfl) <|Qc (Za (v:=v16_1) rfl rfl) <|Qc (Za (v := .int .i64 r17.2.2) rfl rfl) ?_
 refine Qt (Zf tz49 hS ?_)
 intro b19 w18 hb19 hS
 have zb19:rep M16 (Zr.zc GCase) (Zr.zd:GCase):=Zr.zr
 obtain ⟨d22,hd21,hz⟩:=Qb hz
 refine Qt (Q7 0 24 hS rfl zb19 rfl rfl f16_0 rfl rfl (Lf (rr zb19) f16_0) hd21 ?_)
 intro cs21 w20 hb21 ha21 hs21 hS
 refine Q3 2 rfl ?_
 refine Qf (Qa ?_)
 refine Qh <|Qh <|Qi <|Qc (Qe (.int .i64 r17.2.2) rfl) <|Qc (Yn rfl rfl) ?_
 refine Qf (Qa ?_)
 refine Qs rfl (fun hc23 => ?_) (fun hc23 => ?_)
 replace hz:=Qn hz hc23
 refine Qh <|Qi <|Qc (Qe (.int .i64 r17.2.2) rfl) ?_
 have k24_0:=V2 (Zr.zr:rep M16 (Zr.zc GReply) (Zr.zd:GReply)) (ri r17.2.2:rep M16 _ _)
 obtain ⟨d25,hd24,hz⟩:=Qb hz
 obtain ⟨cs24,hf24,ha24⟩ : ∃ cs,fillZ (([(0,1),(1,1),(2,1)]:List (Nat × Nat))[·]?) (Zr.zc GReply) [(0,.int .i64 r17.2.2)]=some cs∧rep M16 cs d25:=⟨_,(Zd (Zr.zr:rep M16 (Zr.zc GReply) (Zr.zd:GReply)) rfl rfl (Rep.len (ri r17.2.2:rep M16 _ _)) (by decide) Ya),Yb (x:=({ code:=r17.2.2,n:=Zr.zd,values:=Zr.zd }:GReply)) k24_0 hd24⟩
 refine Qc (Zy [(0,.int .i64 r17.2.2)] tb40 (Yr rfl Vc) hf24) ?_
 obtain ⟨d28,hd27,hz⟩:=Qb hz
 refine Qt (Q7 1 3 hS rfl zb6 rfl rfl ha24 rfl rfl (Lf (rr zb6) ha24) hd27 ?_)
 intro cs27 w26 hb27 ha27 hs27 hS
 refine Qf (Qa ?_)
 cases hz
 exact Q4 (Qq (Jr (j:=1) rfl rfl (by rw [Rep.len hb27];exact Kq) hS rfl ⟨_,M16,_,rfl,hE,(hS.sel (H':=[.box bx1 cx1 90,.stk ux1_6 9 1 xsx1_6]) [2,3] (by decide) rfl),cs27,cx1,ux1_6,xsx1_6,rfl,rfl,hb27,hcx1,hkx1_6,hpx1_6⟩))
 replace hz:=Qo hz hc23
 refine Qv (Qa ?_)
 refine Qh <|Yq [.box b19 cs21 49,.box bx1 cx1 90] [9] Z8 hS fun w29 hS hG30 hR31=>wy 0 rfl (Qe (.pointer (some ⟨bx1,0,none⟩)) hT_0) (fun _=>hR31) <|wy 1 rfl (Qe (.pointer (some ⟨bx1,0,none⟩)) hT_0) (fun _=>hR31) <|wy 2 rfl (Q6 rfl) (fun _=>hR31) <|wy 3 rfl (Qp fa90_5 rfl) (fun _=>hR31) <|Y0 4 rfl (Ql (.int .i64 x1.begun) Z9 rfl (Yo 1 rfl) (Vv (rr hcx1))) hR31 ?_
 have ha32:=(rr hb21)
 refine Y0 5 rfl (Zh Y9 rfl (Yo 0 rfl) (Rep.len ha32)) hR31 <|wy 6 rfl (Q6 rfl) (fun _=>hR31) <|wy 7 rfl (Qp fa90_4 rfl) (fun _=>hR31) ?_
 obtain ⟨u33,hx34,hz⟩:=Qb hz
 obtain ⟨hx34a,hx34b⟩:=Qw hx34
 refine wy 8 rfl (Zb ia88 rfl rfl hx34a hx34b) (fun _=>hR31) ?_
 obtain ⟨x37,hx38,hz⟩:=Qb hz
 obtain ⟨a39,hx40,hz⟩:=Qb hz
 obtain ⟨d41,hd36,hz⟩:=Qb hz
 have hq43:=(Zm hx38)
 refine w1 9 rfl (Q7 2 24 hS rfl hcx1 rfl rfl ha32 rfl rfl (GCluster.u4 (rr hcx1) (vu (k:=24) rfl rfl (Vd (rr hcx1)) (Lf (vp (k:=24) rfl rfl (Vd (rr hcx1)) hx38) ha32) hx40)) hd36 ?_)
 intro cs36 w35 hb36 ha36 hs36 hS
 have hp42:=(ha36 (by omega)).trans hpx1_6
 refine ⟨nB,?_⟩
 refine wd (Qa ?_)
 refine Qh <|Qi <|Qc (Qe (.pointer (some ⟨bx1,0,none⟩)) hT_0) <|Qc (Q6 rfl) <|Qc (Qp fa90_5 rfl) <|Qc (Ql (.int .i64 d41.begun) Z9 rfl (hS.bvB 2 rfl) (Vv (rr hb36))) <|Qc (Zz rfl rfl) <|Qc (Q6 rfl) <|Qc (Qp fa90_5 rfl) ?_
 obtain ⟨d46,hd45,hz⟩:=Qb hz
 refine Qt (Q7 2 1 hS rfl hb36 rfl rfl (ri (IntKind.wrap .i64 (d41.begun+1)):rep M16 _ _) rfl rfl (GCluster.u5 (rr hb36) (Lf (Vv (rr hb36)) (ri (IntKind.wrap .i64 (d41.begun+1)):rep M16 _ _))) hd45 ?_)
 intro cs45 w44 hb45 ha45 hs45 hS
 have hp47:=(ha45 (by omega)).trans hp42
 refine Qf (Qa ?_)
 refine Qh <|Qi <|Qc (Qe (.pointer (some ⟨bx1,0,none⟩)) hT_0) <|Qc (Qe (v16_1) rfl) ?_
 obtain ⟨r50,hr49,hz⟩:=Qb hz
 refine Qt (Zu (vs:=[.pointer (some ⟨bx1,0,none⟩),v16_1]) (L:=[.box bx1 cs45 90,.stk ux1_6 9 1 xsx1_6]) (R:=[.box b19 cs21 49,.box b6 (Zr.zc GReply) 40]) (rv:=(fun M' u L' => ∃ k0 u1 x1,u = .tuple #[]∧L'=[.box bx1 k0 90,.stk u1 9 1 x1]∧rep M' k0 r50.1∧skr M' u1 x1 r50.2∧sl k0 1993 1=[u1])) cb49 (Z7 rfl rfl) hS (hS.sel [2,3,0,1] (by decide) rfl) (fun hS=>clSend_ok hS hb45 hkx1_6 hp47 f16_1 hr49) ?_)
 rintro u49 M49 w48 L49 hx49 ⟨k0_49,u1_49,x1_49,rfl,hL49,f49_0,f49_1,f49_2⟩ hS
 replace hS:=hS _ hL49
 replace zb6:=Rep.mono hx49.1 zb6
 replace hE:=Qd hE hx49
 refine Qf (Qa ?_)
 refine Qh <|Qi <|Qc (Qe (.pointer (some ⟨bx1,0,none⟩)) hT_0) <|Qc (Q6 rfl) <|Qc (Qp fa90_5 rfl) <|Qc (Ql (.int .i64 r50.1.begun) Z9 rfl (hS.bvB 0 rfl) (Vv (rr f49_0))) <|Qc (Kg rfl rfl) ?_
 have k51_0:=GReply.w1 (Zr.zr:rep M49 (Zr.zc GReply) (Zr.zd:GReply)) (ri (IntKind.wrap .i64 (r50.1.begun-1)):rep M49 _ _)
 obtain ⟨d52,hd51,hz⟩:=Qb hz
 obtain ⟨cs51,hf51,ha51⟩ : ∃ cs,fillZ (([(0,1),(1,1),(2,1)]:List (Nat × Nat))[·]?) (Zr.zc GReply) [(1,.int .i64 (IntKind.wrap .i64 (r50.1.begun-1)))]=some cs∧rep M49 cs d52:=⟨_,(Zd (Zr.zr:rep M49 (Zr.zc GReply) (Zr.zd:GReply)) rfl rfl (Rep.len (ri (IntKind.wrap .i64 (r50.1.begun-1)):rep M49 _ _)) (by decide) Ya),Yb (x:=({ code:=Zr.zd,n:=IntKind.wrap .i64 (r50.1.begun-1),values:=Zr.zd }:GReply)) k51_0 hd51⟩
 refine Qc (Zy [(1,.int .i64 (IntKind.wrap .i64 (r50.1.begun-1)))] tb40 (Yr rfl Vc) hf51) ?_
 obtain ⟨d55,hd54,hz⟩:=Qb hz
 refine Qt (Q7 3 3 hS rfl zb6 rfl rfl ha51 rfl rfl (Lf (rr zb6) ha51) hd54 ?_)
 intro cs54 w53 hb54 ha54 hs54 hS
 refine Qf (Qa ?_)
 cases hz
 exact Q4 (Jr (j:=3) rfl rfl (by rw [Rep.len hb54];exact Kq) hS rfl ⟨_,M49,_,rfl,hE,(hS.sel (H':=[.box bx1 k0_49 90,.stk u1_49 9 1 x1_49]) [0,1] (by decide) rfl),cs54,k0_49,u1_49,x1_49,rfl,rfl,hb54,f49_0,f49_1,f49_2⟩)
def clToldD (fu:Nat) (x1:GCluster) (x2:Int):Option GReply :=
 (inR x2 32).bind fun _ =>
 (idxV x1.cases x2).bind fun x7 =>
 (postResultD fu x7).bind fun r12 =>
 (some ({ code:=Zr.zd,n:=x2,values:=r12.1 }:GReply)).bind fun d14 =>
 (some d14).bind fun d17 =>
 some d17
set_option maxRecDepth 100000 in
set_option maxHeartbeats 4000000 in
theorem clTold_ok {M:Mm} {w:World} {bx1:Nat} {cx1:List Value} {x1:GCluster} {x2:Int} {fu:Nat} {r:GReply} (hS:St w (lentX [.box bx1 cx1 90]) M [.box bx1 cx1 90] w) (hcx1:rep M cx1 x1) (hz:clToldD fu x1 x2=some r) :
    Calls Try.prog 51 #[.pointer (some ⟨bx1,0,none⟩),.int .i64 x2] w (GivesL M w [.box bx1 cx1 90] (fun M' u L' => ∃ c0,u = .agg c0.toArray∧L'=[.box bx1 cx1 90]∧rep M' c0 r)):=by
 refine Zi Try.func51 rfl 20 rfl rfl (by kernel_rfl) fun T hT => ?_
 have hT_0:T 0 = .pointer (some ⟨bx1,0,none⟩):=hT 0
 have hT_1:T 1 = .int .i64 x2:=hT 1
 clear hT
 have hE:=Qg w.heap.size (lentX [.box bx1 cx1 90]) M
 rw [clToldD] at hz
 refine Qh <|Qi ?_
 refine Qt (Zf tz40 hS ?_)
 intro b4 w3 hb4 hS
 have zb4:rep M (Zr.zc GReply) (Zr.zd:GReply):=Zr.zr
 refine Qf (Qa ?_)
 refine Qh <|Qi <|Qc (Qe (.pointer (some ⟨bx1,0,none⟩)) hT_0) <|Qc (Qe (.int .i64 x2) hT_1) <|Qc (Q6 rfl) <|Qc (Qp fa90_4 rfl) ?_
 obtain ⟨u5,hx6,hz⟩:=Qb hz
 obtain ⟨hx6a,hx6b⟩:=Qw hx6
 refine Qc (Zb ia88 rfl rfl hx6a hx6b) ?_
 obtain ⟨x7,hx8,hz⟩:=Qb hz
 have ha9:=(vp (k:=24) rfl rfl (Vd (rr hcx1)) hx8)
 refine Qc (Zh Y9 rfl (hS.bvB 1 rfl) (Rep.len ha9)) ?_
 obtain ⟨r12,hr11,hz⟩:=Qb hz
 refine Qt (Yt (vs:=[.agg (sl cx1 (0+1224+Int.toNat x2*24) 24).toArray]) (rv:=(fun M' u => ∃ v0,u = .tuple #[v0,.bool r12.2]∧repL M' v0 r12.1)) cb28 (Zs rfl) hS (postResult_ok hS.agree ha9 hr11) ?_)
 intro u11 M11 w10 hx11 hu11 hS
 obtain ⟨v11_0,hq11,f11_0⟩:=hu11
 subst hq11
 replace zb4:=Rep.mono hx11.1 zb4
 replace hE:=Qd hE hx11
 refine Qc (Qe (.tuple #[v11_0,.bool r12.2]) rfl) <|Qc (Za (v:=v11_0) rfl rfl) <|Qc (Za (v := .bool r12.2) rfl rfl) <|Q3 2 rfl ?_
 refine Qf (Qa ?_)
 refine Qh <|Qi <|Qc (Qe (.int .i64 x2) hT_1) <|Qc (Qe (v11_0) rfl) ?_
 have k13_0:=GReply.w1 (Zr.zr:rep M11 (Zr.zc GReply) (Zr.zd:GReply)) (ri x2:rep M11 _ _)
 have k13_1:=GReply.w2 k13_0 (Q1 f11_0)
 obtain ⟨d14,hd13,hz⟩:=Qb hz
 obtain ⟨cs13,hf13,ha13⟩ : ∃ cs,fillZ (([(0,1),(1,1),(2,1)]:List (Nat × Nat))[·]?) (Zr.zc GReply) [(1,.int .i64 x2),(2,v11_0)]=some cs∧rep M11 cs d14:=⟨_,(Zd (Zr.zr:rep M11 (Zr.zc GReply) (Zr.zd:GReply)) rfl rfl (Rep.len (ri x2:rep M11 _ _)) (by decide) (Zd k13_0 rfl (Q9 f11_0) (Rep.len (Q1 f11_0)) (by decide) Ya)),Yb (x:=({ code:=Zr.zd,n:=x2,values:=r12.1 }:GReply)) k13_1 hd13⟩
 refine Qc (Zy [(1,.int .i64 x2),(2,v11_0)] tb40 (Yr rfl (Yr rfl Vc)) hf13) ?_
 obtain ⟨d17,hd16,hz⟩:=Qb hz
 refine Qt (Q7 0 3 hS rfl zb4 rfl rfl ha13 rfl rfl (Lf (rr zb4) ha13) hd16 ?_)
 intro cs16 w15 hb16 ha16 hs16 hS
 refine Qf (Qa ?_)
 cases hz
 exact Q4 (Jr (j:=0) rfl rfl (by rw [Rep.len hb16];exact Kq) hS rfl ⟨_,M11,_,rfl,hE,(hS.sel (H':=[.box bx1 cx1 90]) [1] (by decide) rfl),cs16,rfl,rfl,hb16⟩)
def clCome_j1 (fu:Nat) (x1:GCluster) (l3:List ByteArray) (x4:Int) (x6:ByteArray) (d18:GNode) (l19:List GFrame) (y21:Int):Option (Int × GCluster × (List ByteArray)) :=
 (bif y21 != 0 then
 some (y21,x1,l3)
 else
 (inR x4 6).bind fun _ =>
 (idxV x1.tear x4).bind fun x26 =>
 (bif decide (x26>0) then
 (inR x4 6).bind fun _ =>
 (idxV x1.logs x4).bind fun x34 =>
 (inR x4 6).bind fun _ =>
 (idxV x1.tear x4).bind fun x38 =>
 (bkTearD fu x34 x6 (IntKind.wrap .i64 (x38-1))).bind fun r42 =>
 (inR x4 6).bind fun _ =>
 (chkS r42).bind fun _ =>
 (idxV x1.logs x4).bind fun x49 =>
 (setV x1.logs x4 r42).bind fun a51 =>
 (some ({ x1 with logs:=a51 }:GCluster)).bind fun d53 =>
 (some ({ entries:=Zr.zd,order:=Zr.zd,values:=Zr.zd }:GNode)).bind fun d60 =>
 (inR x4 6).bind fun _ =>
 (idxV d53.nodes x4).bind fun x65 =>
 (setV d53.nodes x4 d60).bind fun a67 =>
 (some ({ d53 with nodes:=a67 }:GCluster)).bind fun d69 =>
 (inR x4 6).bind fun _ =>
 (idxV d69.down x4).bind fun x77 =>
 (setV d69.down x4 true).bind fun a79 =>
 (some ({ d69 with down:=a79 }:GCluster)).bind fun d81 =>
 (inR x4 6).bind fun _ =>
 (idxV d81.tear x4).bind fun x89 =>
 (setV d81.tear x4 0).bind fun a91 =>
 (some ({ d81 with tear:=a91 }:GCluster)).bind fun d93 =>
 some (6,d93,l3)
 else
 (inR x4 6).bind fun _ =>
 (idxV x1.logs x4).bind fun x102 =>
 (bkWriteD fu x102 x6).bind fun r106 =>
 (inR x4 6).bind fun _ =>
 (chkS r106.1).bind fun _ =>
 (idxV x1.logs x4).bind fun x113 =>
 (setV x1.logs x4 r106.1).bind fun a115 =>
 (some ({ x1 with logs:=a115 }:GCluster)).bind fun d117 =>
 (bif r106.2 != 0 then
 some (r106.2,d117,l3)
 else
 (inR x4 6).bind fun _ =>
 (idxV d117.nodes x4).bind fun x129 =>
 (setV d117.nodes x4 d18).bind fun a131 =>
 (some ({ d117 with nodes:=a131 }:GCluster)).bind fun d133 =>
 (clSendD fu d133 l3 l19).bind fun r139 =>
 some (0,r139.1,r139.2))))
def clComeD (fu:Nat) (x1:GCluster) (l3:List ByteArray) (x4:Int) (x5:GFrame) (x6:ByteArray):Option (Int × GCluster × (List ByteArray)) :=
 (inR x4 6).bind fun _ =>
 (idxV x1.down x4).bind fun x11 =>
 (bif x11 then
 some (6,x1,l3)
 else
 (inR x4 6).bind fun _ =>
 (idxV x1.nodes x4).bind fun x146 =>
 (nodeTakeD fu x146 x4 x5).bind fun r152 =>
 (some r152.1).bind fun d157 =>
 clCome_j1 fu x1 l3 x4 x6 d157 r152.2.1 r152.2.2)
set_option maxRecDepth 100000 in
set_option maxHeartbeats 4000000 in
theorem clCome_ok {M:Mm} {w:World} {bx1:Nat} {cx1:List Value} {ux1_6:Value} {xsx1_6:List Value} {cx5:List Value} {x1:GCluster} {l3:List ByteArray} {x4:Int} {x5:GFrame} {x6:ByteArray} {fu:Nat} {r:Int × GCluster × (List ByteArray)} (hS:St w (lentX [.box bx1 cx1 90,.stk ux1_6 9 1 xsx1_6]) M [.box bx1 cx1 90,.stk ux1_6 9 1 xsx1_6] w) (hcx1:rep M cx1 x1) (hkx1_6:skr M ux1_6 xsx1_6 l3) (hpx1_6:sl cx1 1993 1=[ux1_6]) (hcx5:rep M cx5 x5) (hz:clComeD fu x1 l3 x4 x5 x6=some r) :
    Calls Try.prog 68 #[.pointer (some ⟨bx1,0,none⟩),.int .i64 x4,.agg cx5.toArray,.string x6] w (GivesL M w [.box bx1 cx1 90,.stk ux1_6 9 1 xsx1_6] (fun M' u L' => ∃ k0 u1 x1,u = .int .i64 r.1∧L'=[.box bx1 k0 90,.stk u1 9 1 x1]∧rep M' k0 r.2.1∧skr M' u1 x1 r.2.2∧sl k0 1993 1=[u1])):=by
 refine Zi Try.func68 rfl 105 rfl rfl (by kernel_rfl) fun T hT => ?_
 have hT_0:T 0 = .pointer (some ⟨bx1,0,none⟩):=hT 0
 have hT_1:T 1 = .int .i64 x4:=hT 1
 have hT_2:T 2 = .agg cx5.toArray:=hT 2
 have hT_3:T 3 = .string x6:=hT 3
 clear hT
 have hE:=Qg w.heap.size (lentX [.box bx1 cx1 90,.stk ux1_6 9 1 xsx1_6]) M
 rw [clComeD] at hz
 refine Qh <|Qi ?_
 refine Qt (Ys (v := .agg cx5.toArray) (cs:=cx5) hT_2 rfl hS ?_)
 intro b8 w7 hb8 hS
 refine Qc (Qj (.int .i64 0) rfl) ?_
 refine Qf (Qa ?_)
 refine Qh <|Qh <|Qi <|Qc (Qe (.pointer (some ⟨bx1,0,none⟩)) hT_0) <|Qc (Qe (.int .i64 x4) hT_1) <|Qc (Q6 rfl) <|Qc (Qp fa90_2 rfl) ?_
 obtain ⟨u9,hx10,hz⟩:=Qb hz
 obtain ⟨hx10a,hx10b⟩:=Qw hx10
 refine Qc (Zb Jt rfl rfl hx10a hx10b) ?_
 obtain ⟨x11,hx12,hz⟩:=Qb hz
 refine Qc (Ql (.bool x11) Jm rfl (hS.bvB 1 rfl) (vp (k:=1) rfl rfl (Y5 (rr hcx1)) hx12)) ?_
 refine Qf (Qa ?_)
 refine Qs rfl (fun hc13 => ?_) (fun hc13 => ?_)
 replace hz:=Qn hz hc13
 refine Qh <|Qi <|Qc (Qj (.int .i64 6) rfl) ?_
 refine Qf (Qa ?_)
 cases hz
 exact Q4 (Qq (Yg rfl rfl ⟨_,M,_,rfl,hE,(hS.sel (H':=[.box bx1 cx1 90,.stk ux1_6 9 1 xsx1_6]) [1,2] (by decide) rfl),cx1,ux1_6,xsx1_6,rfl,rfl,hcx1,hkx1_6,hpx1_6⟩))
 replace hz:=Qo hz hc13
 refine Qv (Qa ?_)
 refine Q0 (fun T' w' => ∃ M15 b17 cs17 d18 v20 l19 y21,Mm.ext w.heap.size (lentX [.box bx1 cx1 90,.stk ux1_6 9 1 xsx1_6]) M M15∧St w (lentX [.box bx1 cx1 90,.stk ux1_6 9 1 xsx1_6]) M15 [.box b17 cs17 34,.box b8 cx5 118,.box bx1 cx1 90,.stk ux1_6 9 1 xsx1_6] w'∧rep M15 cs17 d18∧w.heap.size≤b17∧repL M15 v20 l19∧T' 9 = .pointer (some ⟨b17,0,none⟩)∧T' 0 = .pointer (some ⟨bx1,0,none⟩)∧T' 1 = .int .i64 x4∧T' 3 = .string x6∧T' 10=v20∧T' 11 = .int .i64 y21∧clCome_j1 fu x1 l3 x4 x6 d18 l19 y21=some r) ?_ ?_
 have hF140:=Qg w.heap.size (lentX [.box bx1 cx1 90,.stk ux1_6 9 1 xsx1_6]) M
 refine Yq [.box b8 cx5 118,.box bx1 cx1 90] [] Z8 hS fun w141 hS hG142 hR143=>wy 0 rfl (Qe (.pointer (some ⟨bx1,0,none⟩)) hT_0) (fun _=>hR143) <|wy 1 rfl (Qe (.int .i64 x4) hT_1) (fun _=>hR143) <|wy 2 rfl (Q6 rfl) (fun _=>hR143) <|wy 3 rfl (Qp fa90_0 rfl) (fun _=>hR143) ?_
 obtain ⟨u144,hx145,hz⟩:=Qb hz
 obtain ⟨hx145a,hx145b⟩:=Qw hx145
 refine wy 4 rfl (Zb ia86 rfl rfl hx145a hx145b) (fun _=>hR143) ?_
 obtain ⟨x146,hx147,hz⟩:=Qb hz
 have ha148:=(vp (k:=201) rfl rfl (Yy (rr hcx1)) hx147)
 refine Y0 5 rfl (Zh Vj rfl (Yo 1 rfl) (Rep.len ha148)) hR143 <|wy 6 rfl (Qe (.int .i64 x4) hT_1) (fun _=>hR143) ?_
 have ha149:=(rr hcx5)
 refine Y0 7 rfl (Zh K7 rfl (Yo 0 rfl) (Rep.len ha149)) hR143 ?_
 obtain ⟨r152,hr151,hz⟩:=Qb hz
 obtain ⟨d157,hd156,hz⟩:=Qb hz
 refine WB_two (i:=8) (j:=13) (by kernel_rfl) rfl rfl (Yt (vs:=[.agg (sl cx1 (0+0+Int.toNat x4*201) 201).toArray,.int .i64 x4,.agg (sl cx5 (0) 7).toArray]) (rv:=(fun M' u => ∃ c0 v1,u = .tuple #[.agg c0.toArray,v1,.int .i64 r152.2.2]∧rep M' c0 r152.1∧repL M' v1 r152.2.1)) cb81 (Jo rfl rfl rfl) hS (nodeTake_ok hS.agree ha148 ha149 hr151) ?_) (Zf tz34 hS ?_)
 intro u151 M151 w150 hx151 hu151 hS
 obtain ⟨c151_0,v151_1,hq151,f151_0,f151_1⟩:=hu151
 subst hq151
 replace hF140:=Qd hF140 hx151
 replace hG142:=Qd hG142 hx151
 refine Yp hS hG142 fun hR158=>wy 9 rfl (Qe (.tuple #[.agg c151_0.toArray,v151_1,.int .i64 r152.2.2]) rfl) (fun _=>hR158) <|wy 10 rfl (Za (v := .agg c151_0.toArray) rfl rfl) (fun _=>hR158) <|wy 11 rfl (Za (v:=v151_1) rfl rfl) (fun _=>hR158) <|wy 12 rfl (Za (v := .int .i64 r152.2.2) rfl rfl) (fun _=>hR158) ?_
 refine w1 13 rfl (Zf tz34 hS ?_)
 intro b154 w153 hb154 hS
 have zb154:rep M151 (Zr.zc GNode) (Zr.zd:GNode):=Zr.zr
 refine Yp hS hG142 fun hR159 => ?_
 refine w1 14 rfl (Q7 0 201 hS rfl zb154 rfl rfl f151_0 rfl rfl (Lf (rr zb154) f151_0) hd156 ?_)
 intro cs156 w155 hb156 ha156 hs156 hS
 refine Yp hS hG142 fun hR160=>wy 15 rfl (Qj (v151_1) rfl) (fun _=>hR160) <|wy 16 rfl (Qj (.int .i64 r152.2.2) rfl) (fun _=>hR160) ?_
 refine wd (Qa ?_)
 exact ⟨M151,b154,cs156,d157,v151_1,r152.2.1,r152.2.2,hF140,hS,hb156,hb154,f151_1,rfl,hT_0,hT_1,hT_3,rfl,rfl,hz⟩
 intro b154 w153 hb154 hS
 have zb154:rep M (Zr.zc GNode) (Zr.zd:GNode):=Zr.zr
 refine Yp hS hG142 fun hR161 => ?_
 refine w1 8 rfl (Yt (vs:=[.agg (sl cx1 (0+0+Int.toNat x4*201) 201).toArray,.int .i64 x4,.agg (sl cx5 (0) 7).toArray]) (rv:=(fun M' u => ∃ c0 v1,u = .tuple #[.agg c0.toArray,v1,.int .i64 r152.2.2]∧rep M' c0 r152.1∧repL M' v1 r152.2.1)) cb81 (Jo rfl rfl rfl) hS (nodeTake_ok hS.agree ha148 ha149 hr151) ?_)
 intro u151 M151 w150 hx151 hu151 hS
 obtain ⟨c151_0,v151_1,hq151,f151_0,f151_1⟩:=hu151
 subst hq151
 replace zb154:=Rep.mono hx151.1 zb154
 replace hF140:=Qd hF140 hx151
 replace hG142:=Qd hG142 hx151
 refine Yp hS hG142 fun hR162=>wy 9 rfl (Qe (.tuple #[.agg c151_0.toArray,v151_1,.int .i64 r152.2.2]) rfl) (fun _=>hR162) <|wy 10 rfl (Za (v := .agg c151_0.toArray) rfl rfl) (fun _=>hR162) <|wy 11 rfl (Za (v:=v151_1) rfl rfl) (fun _=>hR162) <|wy 12 rfl (Za (v := .int .i64 r152.2.2) rfl rfl) (fun _=>hR162) ?_
 refine w1 14 rfl (Q7 0 201 hS rfl zb154 rfl rfl f151_0 rfl rfl (Lf (rr zb154) f151_0) hd156 ?_)
 intro cs156 w155 hb156 ha156 hs156 hS
 refine Yp hS hG142 fun hR163=>wy 15 rfl (Qj (v151_1) rfl) (fun _=>hR163) <|wy 16 rfl (Qj (.int .i64 r152.2.2) rfl) (fun _=>hR163) ?_
 refine wd (Qa ?_)
 exact ⟨M151,b154,cs156,d157,v151_1,r152.2.1,r152.2.2,hF140,hS,hb156,hb154,f151_1,rfl,hT_0,hT_1,hT_3,rfl,rfl,hz⟩
 rintro T16 w14 ⟨M15,b17,cs17,d18,v20,l19,y21,hx22,hS,hb17,hs17,hv20,hT16_9,hT16_0,hT16_1,hT16_3,hT16_10,hT16_11,hz⟩
 replace hcx1:=Rep.mono hx22.1 hcx1
 replace hkx1_6:=Zv hx22.1 hkx1_6
 replace hE:=Qd hE hx22
 rw [clCome_j1] at hz
 refine Qh <|Qh <|Qi <|Qc (Qe (.int .i64 y21) hT16_11) <|Qc (Yn rfl rfl) ?_
 refine Qf (Qa ?_)
 refine Qs rfl (fun hc23 => ?_) (fun hc23 => ?_)
 replace hz:=Qn hz hc23
 refine Qh <|Qi <|Qc (Qe (.int .i64 y21) hT16_11) <|Qc (Qj (.int .i64 y21) rfl) ?_
 refine Qf (Qa ?_)
 cases hz
 exact Q4 (Qq (Yg rfl rfl ⟨_,M15,_,rfl,hE,(hS.sel (H':=[.box bx1 cx1 90,.stk ux1_6 9 1 xsx1_6]) [2,3] (by decide) rfl),cx1,ux1_6,xsx1_6,rfl,rfl,hcx1,hkx1_6,hpx1_6⟩))
 replace hz:=Qo hz hc23
 refine Qv (Qa ?_)
 refine Qh <|Qh <|Qi <|Qc (Qe (.pointer (some ⟨bx1,0,none⟩)) hT16_0) <|Qc (Qe (.int .i64 x4) hT16_1) <|Qc (Q6 rfl) <|Qc (Qp fa90_3 rfl) ?_
 obtain ⟨u24,hx25,hz⟩:=Qb hz
 obtain ⟨hx25a,hx25b⟩:=Qw hx25
 refine Qc (Zb ia55 rfl rfl hx25a hx25b) ?_
 obtain ⟨x26,hx27,hz⟩:=Qb hz
 refine Qc (Ql (.int .i64 x26) Z9 rfl (hS.bvB 2 rfl) (vp (k:=1) rfl rfl (Ve (rr hcx1)) hx27)) <|Qc (Y4 rfl rfl) ?_
 refine Qf (Qa ?_)
 refine Qs rfl (fun hc28 => ?_) (fun hc28 => ?_)
 replace hz:=Qn hz hc28
 refine Qh <|Yq [.box bx1 cx1 90] [20] Z8 hS fun w29 hS hG30 hR31=>wy 0 rfl (Qe (.pointer (some ⟨bx1,0,none⟩)) hT16_0) (fun _=>hR31) <|wy 1 rfl (Qe (.int .i64 x4) hT16_1) (fun _=>hR31) <|wy 2 rfl (Qe (.pointer (some ⟨bx1,0,none⟩)) hT16_0) (fun _=>hR31) <|wy 3 rfl (Qe (.int .i64 x4) hT16_1) (fun _=>hR31) <|wy 4 rfl (Q6 rfl) (fun _=>hR31) <|wy 5 rfl (Qp fa90_1 rfl) (fun _=>hR31) ?_
 obtain ⟨u32,hx33,hz⟩:=Qb hz
 obtain ⟨hx33a,hx33b⟩:=Qw hx33
 refine wy 6 rfl (Zb ia87 rfl rfl hx33a hx33b) (fun _=>hR31) ?_
 obtain ⟨x34,hx35,hz⟩:=Qb hz
 refine Y0 7 rfl (Ql (.string x34) ts9 rfl (Yo 0 rfl) (vp (k:=1) rfl rfl (Yz (rr hcx1)) hx35).1) hR31 <|wy 8 rfl (Qe (.string x6) hT16_3) (fun _=>hR31) <|wy 9 rfl (Qe (.pointer (some ⟨bx1,0,none⟩)) hT16_0) (fun _=>hR31) <|wy 10 rfl (Qe (.int .i64 x4) hT16_1) (fun _=>hR31) <|wy 11 rfl (Q6 rfl) (fun _=>hR31) <|wy 12 rfl (Qp fa90_3 rfl) (fun _=>hR31) ?_
 obtain ⟨u36,hx37,hz⟩:=Qb hz
 obtain ⟨hx37a,hx37b⟩:=Qw hx37
 refine wy 13 rfl (Zb ia55 rfl rfl hx37a hx37b) (fun _=>hR31) ?_
 obtain ⟨x38,hx39,hz⟩:=Qb hz
 refine Y0 14 rfl (Ql (.int .i64 x38) Z9 rfl (Yo 0 rfl) (vp (k:=1) rfl rfl (Ve (rr hcx1)) hx39)) hR31 <|wy 15 rfl (Kg rfl rfl) (fun _=>hR31) <|wy 17 rfl (Q6 rfl) (fun _=>hR31) <|wy 18 rfl (Qp fa90_1 rfl) (fun _=>hR31) ?_
 obtain ⟨r42,hr41,hz⟩:=Qb hz
 refine w1 16 rfl (Z4 (vs:=[.string x34,.string x6,.int .i64 (IntKind.wrap .i64 (x38-1))]) (v := .string r42) cb82 (Jo rfl rfl rfl) hS (bkTear_ok hS.agree hr41) ?_)
 intro w40 hS
 refine Yp hS hG30 fun hR43 => ?_
 obtain ⟨u44,hx45,hz⟩:=Qb hz
 obtain ⟨hx45a,hx45b⟩:=Qw hx45
 refine wy 19 rfl (Zb ia87 rfl rfl hx45a hx45b) (fun _=>hR43) ?_
 obtain ⟨_,hx47,hz⟩:=Qb hz
 have hx47:=Kf hx47
 obtain ⟨x49,hx50,hz⟩:=Qb hz
 obtain ⟨a51,hx52,hz⟩:=Qb hz
 obtain ⟨d53,hd48,hz⟩:=Qb hz
 have hq55:=(Zm hx50)
 refine w1 20 rfl (Q7 2 1 hS rfl hcx1 rfl rfl (Vz hx47:rep M15 [Value.string r42] r42) rfl rfl (GCluster.u1 (rr hcx1) (vu (k:=1) rfl rfl (Yz (rr hcx1)) (Lf (vp (k:=1) rfl rfl (Yz (rr hcx1)) hx50) (Vz hx47:rep M15 [Value.string r42] r42)) hx52)) hd48 ?_)
 intro cs48 w46 hb48 ha48 hs48 hS
 have hp54:=(ha48 (by omega)).trans hpx1_6
 refine ⟨nB,?_⟩
 refine wd (Qa ?_)
 refine Qh <|Yq [] [] Z8 hS fun w56 hS hG57 hR58=>wy 0 rfl (Qe (.pointer (some ⟨bx1,0,none⟩)) hT16_0) (fun _=>hR58) <|wy 1 rfl (Qe (.int .i64 x4) hT16_1) (fun _=>hR58) <|wy 2 rfl (Qe (.pointer (some ⟨bx1,0,none⟩)) hT16_0) (fun _=>hR58) <|wy 3 rfl (Qe (.int .i64 x4) hT16_1) (fun _=>hR58) <|wy 4 rfl (Qe (.pointer (some ⟨bx1,0,none⟩)) hT16_0) (fun _=>hR58) <|wy 5 rfl (Qe (.int .i64 x4) hT16_1) (fun _=>hR58) ?_
 obtain ⟨d60,hd59,hz⟩:=Qb hz
 obtain ⟨cs59,hf59,ha59⟩ : ∃ cs,fillZ (([(0,192),(192,1),(193,8)]:List (Nat × Nat))[·]?) (Zr.zc GNode) []=some cs∧rep M15 cs d60:=⟨_,Ya,Yb (x:=({ entries:=Zr.zd,order:=Zr.zd,values:=Zr.zd }:GNode)) (Zr.zr:rep M15 (Zr.zc GNode) (Zr.zd:GNode)) hd59⟩
 refine wy 6 rfl (Zy [] tb34 Vc hf59) (fun _=>hR58) <|wy 7 rfl (Q6 rfl) (fun _=>hR58) <|wy 8 rfl (Qp fa90_0 rfl) (fun _=>hR58) ?_
 obtain ⟨u61,hx62,hz⟩:=Qb hz
 obtain ⟨hx62a,hx62b⟩:=Qw hx62
 refine wy 9 rfl (Zb ia86 rfl rfl hx62a hx62b) (fun _=>hR58) <|wy 11 rfl (Q6 rfl) (fun _=>hR58) <|wy 12 rfl (Qp fa90_2 rfl) (fun _=>hR58) <|wy 15 rfl (Q6 rfl) (fun _=>hR58) <|wy 16 rfl (Qp fa90_3 rfl) (fun _=>hR58) ?_
 obtain ⟨x65,hx66,hz⟩:=Qb hz
 obtain ⟨a67,hx68,hz⟩:=Qb hz
 obtain ⟨d69,hd64,hz⟩:=Qb hz
 have hq71:=(Zm hx66)
 refine w1 10 rfl (Q7 2 201 hS rfl hb48 rfl rfl ha59 rfl rfl (Je (rr hb48) (vu (k:=201) rfl rfl (Yy (rr hb48)) (Lf (vp (k:=201) rfl rfl (Yy (rr hb48)) hx66) ha59) hx68)) hd64 ?_)
 intro cs64 w63 hb64 ha64 hs64 hS
 have hp70:=(ha64 (by omega)).trans hp54
 refine Yp hS hG57 fun hR72 => ?_
 obtain ⟨u73,hx74,hz⟩:=Qb hz
 obtain ⟨hx74a,hx74b⟩:=Qw hx74
 refine wy 13 rfl (Zb Jt rfl rfl hx74a hx74b) (fun _=>hR72) ?_
 obtain ⟨x77,hx78,hz⟩:=Qb hz
 obtain ⟨a79,hx80,hz⟩:=Qb hz
 obtain ⟨d81,hd76,hz⟩:=Qb hz
 have hq83:=(Zm hx78)
 refine w1 14 rfl (Q7 2 1 hS rfl hb64 rfl rfl (rb true:rep M15 _ _) rfl rfl (GCluster.u2 (rr hb64) (vu (k:=1) rfl rfl (Y5 (rr hb64)) (Lf (vp (k:=1) rfl rfl (Y5 (rr hb64)) hx78) (rb true:rep M15 _ _)) hx80)) hd76 ?_)
 intro cs76 w75 hb76 ha76 hs76 hS
 have hp82:=(ha76 (by omega)).trans hp70
 refine Yp hS hG57 fun hR84 => ?_
 obtain ⟨u85,hx86,hz⟩:=Qb hz
 obtain ⟨hx86a,hx86b⟩:=Qw hx86
 refine wy 17 rfl (Zb ia55 rfl rfl hx86a hx86b) (fun _=>hR84) ?_
 obtain ⟨x89,hx90,hz⟩:=Qb hz
 obtain ⟨a91,hx92,hz⟩:=Qb hz
 obtain ⟨d93,hd88,hz⟩:=Qb hz
 have hq95:=(Zm hx90)
 refine w1 18 rfl (Q7 2 1 hS rfl hb76 rfl rfl (ri 0:rep M15 _ _) rfl rfl (GCluster.u3 (rr hb76) (vu (k:=1) rfl rfl (Ve (rr hb76)) (Lf (vp (k:=1) rfl rfl (Ve (rr hb76)) hx90) (ri 0:rep M15 _ _)) hx92)) hd88 ?_)
 intro cs88 w87 hb88 ha88 hs88 hS
 have hp94:=(ha88 (by omega)).trans hp82
 refine Yp hS hG57 fun hR96 => ?_
 refine wd (Qa ?_)
 refine Qh <|Qi <|Qc (Qj (.int .i64 6) rfl) ?_
 refine Qf (Qa ?_)
 cases hz
 exact Q4 (Qq (Yg rfl rfl ⟨_,M15,_,rfl,hE,(hS.sel (H':=[.box bx1 cs88 90,.stk ux1_6 9 1 xsx1_6]) [2,3] (by decide) rfl),cs88,ux1_6,xsx1_6,rfl,rfl,hb88,hkx1_6,hp94⟩))
 replace hz:=Qo hz hc28
 refine Qv (Qa ?_)
 refine Qh <|Qh <|Yq [.box bx1 cx1 90] [16] Z8 hS fun w97 hS hG98 hR99=>wy 0 rfl (Qe (.pointer (some ⟨bx1,0,none⟩)) hT16_0) (fun _=>hR99) <|wy 1 rfl (Qe (.int .i64 x4) hT16_1) (fun _=>hR99) <|wy 2 rfl (Qe (.pointer (some ⟨bx1,0,none⟩)) hT16_0) (fun _=>hR99) <|wy 3 rfl (Qe (.int .i64 x4) hT16_1) (fun _=>hR99) <|wy 4 rfl (Q6 rfl) (fun _=>hR99) <|wy 5 rfl (Qp fa90_1 rfl) (fun _=>hR99) ?_
 obtain ⟨u100,hx101,hz⟩:=Qb hz
 obtain ⟨hx101a,hx101b⟩:=Qw hx101
 refine wy 6 rfl (Zb ia87 rfl rfl hx101a hx101b) (fun _=>hR99) ?_
 obtain ⟨x102,hx103,hz⟩:=Qb hz
 refine Y0 7 rfl (Ql (.string x102) ts9 rfl (Yo 0 rfl) (vp (k:=1) rfl rfl (Yz (rr hcx1)) hx103).1) hR99 <|wy 8 rfl (Qe (.string x6) hT16_3) (fun _=>hR99) <|wy 13 rfl (Q6 rfl) (fun _=>hR99) <|wy 14 rfl (Qp fa90_1 rfl) (fun _=>hR99) ?_
 obtain ⟨r106,hr105,hz⟩:=Qb hz
 refine w1 9 rfl (Z4 (vs:=[.string x102,.string x6]) (v := .tuple #[.string r106.1,.int .i64 r106.2]) cb83 (Z7 rfl rfl) hS (bkWrite_ok hS.agree hr105) ?_)
 intro w104 hS
 refine Yp hS hG98 fun hR107=>wy 10 rfl (Qe (.tuple #[.string r106.1,.int .i64 r106.2]) rfl) (fun _=>hR107) <|wy 11 rfl (Za (v := .string r106.1) rfl rfl) (fun _=>hR107) <|wy 12 rfl (Za (v := .int .i64 r106.2) rfl rfl) (fun _=>hR107) ?_
 obtain ⟨u108,hx109,hz⟩:=Qb hz
 obtain ⟨hx109a,hx109b⟩:=Qw hx109
 refine wy 15 rfl (Zb ia87 rfl rfl hx109a hx109b) (fun _=>hR107) ?_
 obtain ⟨_,hx111,hz⟩:=Qb hz
 have hx111:=Kf hx111
 obtain ⟨x113,hx114,hz⟩:=Qb hz
 obtain ⟨a115,hx116,hz⟩:=Qb hz
 obtain ⟨d117,hd112,hz⟩:=Qb hz
 have hq119:=(Zm hx114)
 refine w1 16 rfl (Q7 2 1 hS rfl hcx1 rfl rfl (Vz hx111:rep M15 [Value.string r106.1] r106.1) rfl rfl (GCluster.u1 (rr hcx1) (vu (k:=1) rfl rfl (Yz (rr hcx1)) (Lf (vp (k:=1) rfl rfl (Yz (rr hcx1)) hx114) (Vz hx111:rep M15 [Value.string r106.1] r106.1)) hx116)) hd112 ?_)
 intro cs112 w110 hb112 ha112 hs112 hS
 have hp118:=(ha112 (by omega)).trans hpx1_6
 refine ⟨nB,?_⟩
 refine wy 17 rfl (Qj (.int .i64 r106.2) rfl) nB ?_
 refine wd (Qa ?_)
 refine Qh <|Qi <|Qc (Qe (.int .i64 r106.2) rfl) <|Qc (Yn rfl rfl) ?_
 refine Qf (Qa ?_)
 refine Qs rfl (fun hc120 => ?_) (fun hc120 => ?_)
 replace hz:=Qn hz hc120
 refine Qh <|Qi <|Q3 2 rfl ?_
 refine Qf (Qa ?_)
 cases hz
 exact Q4 (Qq (Yg rfl rfl ⟨_,M15,_,rfl,hE,(hS.sel (H':=[.box bx1 cs112 90,.stk ux1_6 9 1 xsx1_6]) [2,3] (by decide) rfl),cs112,ux1_6,xsx1_6,rfl,rfl,hb112,hkx1_6,hp118⟩))
 replace hz:=Qo hz hc120
 refine Qv (Qa ?_)
 refine Qh <|Yq [.box b17 cs17 34] [] Z8 hS fun w121 hS hG122 hR123=>wy 0 rfl (Qe (.pointer (some ⟨bx1,0,none⟩)) hT16_0) (fun _=>hR123) <|wy 1 rfl (Qe (.int .i64 x4) hT16_1) (fun _=>hR123) ?_
 have ha124:=(rr hb17)
 refine Y0 2 rfl (Zh Vj hT16_9 (Yo 0 rfl) (Rep.len ha124)) hR123 <|wy 3 rfl (Q6 rfl) (fun _=>hR123) <|wy 4 rfl (Qp fa90_0 rfl) (fun _=>hR123) ?_
 obtain ⟨u125,hx126,hz⟩:=Qb hz
 obtain ⟨hx126a,hx126b⟩:=Qw hx126
 refine wy 5 rfl (Zb ia86 rfl rfl hx126a hx126b) (fun _=>hR123) ?_
 obtain ⟨x129,hx130,hz⟩:=Qb hz
 obtain ⟨a131,hx132,hz⟩:=Qb hz
 obtain ⟨d133,hd128,hz⟩:=Qb hz
 have hq135:=(Zm hx130)
 refine w1 6 rfl (Q7 2 201 hS rfl hb112 rfl rfl ha124 rfl rfl (Je (rr hb112) (vu (k:=201) rfl rfl (Yy (rr hb112)) (Lf (vp (k:=201) rfl rfl (Yy (rr hb112)) hx130) ha124) hx132)) hd128 ?_)
 intro cs128 w127 hb128 ha128 hs128 hS
 have hp134:=(ha128 (by omega)).trans hp118
 refine Yp hS hG122 fun hR136 => ?_
 refine wd (Qa ?_)
 refine Qh <|Qi <|Qc (Qe (.pointer (some ⟨bx1,0,none⟩)) hT16_0) <|Qc (Qe (v20) hT16_10) ?_
 obtain ⟨r139,hr138,hz⟩:=Qb hz
 refine Qt (Zu (vs:=[.pointer (some ⟨bx1,0,none⟩),v20]) (L:=[.box bx1 cs128 90,.stk ux1_6 9 1 xsx1_6]) (R:=[.box b17 cs17 34,.box b8 cx5 118]) (rv:=(fun M' u L' => ∃ k0 u1 x1,u = .tuple #[]∧L'=[.box bx1 k0 90,.stk u1 9 1 x1]∧rep M' k0 r139.1∧skr M' u1 x1 r139.2∧sl k0 1993 1=[u1])) cb49 (Z7 rfl rfl) hS (hS.sel [2,3,0,1] (by decide) rfl) (fun hS=>clSend_ok hS hb128 hkx1_6 hp134 hv20 hr138) ?_)
 rintro u138 M138 w137 L138 hx138 ⟨k0_138,u1_138,x1_138,rfl,hL138,f138_0,f138_1,f138_2⟩ hS
 replace hS:=hS _ hL138
 replace hE:=Qd hE hx138
 refine Qf (Qa ?_)
 refine Qh <|Qi <|Qc (Qj (.int .i64 0) rfl) ?_
 refine Qf (Qa ?_)
 cases hz
 exact Q4 (Yg rfl rfl ⟨_,M138,_,rfl,hE,(hS.sel (H':=[.box bx1 k0_138 90,.stk u1_138 9 1 x1_138]) [0,1] (by decide) rfl),k0_138,u1_138,x1_138,rfl,rfl,f138_0,f138_1,f138_2⟩)
def clFrame_j4 (fu:Nat) (d36:GFrame) (d49:GCluster) (l52:List ByteArray) (d60:GCase) (l61:List GFrame) (y63:Int):Option (GReply × GCluster × (List ByteArray)) :=
 (bif y63 != 0 then
 (some ({ code:=y63,n:=Zr.zd,values:=Zr.zd }:GReply)).bind fun d67 =>
 (some d67).bind fun d70 =>
 some (d70,d49,l52)
 else
 (inR d36.id 32).bind fun _ =>
 (idxV d49.cases d36.id).bind fun x79 =>
 (setV d49.cases d36.id d60).bind fun a81 =>
 (some ({ d49 with cases:=a81 }:GCluster)).bind fun d83 =>
 (clSendD fu d83 l52 l61).bind fun r89 =>
 (clToldD fu r89.1 d36.id).bind fun r92 =>
 (some r92).bind fun d95 =>
 some (d95,r89.1,r89.2))
def clFrame_j3 (fu:Nat) (d36:GFrame) (d47:GReply) (d49:GCluster) (l52:List ByteArray):Option (GReply × GCluster × (List ByteArray)) :=
 (inR d36.id 32).bind fun _ =>
 (idxV d49.cases d36.id).bind fun x102 =>
 (postTakeD fu x102 d36.id d36).bind fun r108 =>
 (some r108.1).bind fun d113 =>
 clFrame_j4 fu d36 d49 l52 d113 r108.2.1 r108.2.2
def clFrame_j5 (fu:Nat) (d13:GReply) (x16:ByteArray) (d22:GCluster) (l25:List ByteArray) (d36:GFrame) (c124:Bool):Option (GReply × GCluster × (List ByteArray)) :=
 (bif c124 then
 (clComeD fu d22 l25 d36.node d36 x16).bind fun r130 =>
 (bif r130.1 != 0 then
 (some ({ code:=r130.1,n:=Zr.zd,values:=Zr.zd }:GReply)).bind fun d133 =>
 (some d133).bind fun d136 =>
 some (d136,r130.2.1,r130.2.2)
 else
 (some ({ code:=Zr.zd,n:=d36.id,values:=Zr.zd }:GReply)).bind fun d138 =>
 (some d138).bind fun d141 =>
 some (d141,r130.2.1,r130.2.2))
 else
 clFrame_j3 fu d36 d13 d22 l25)
def clFrame_j2 (fu:Nat) (x4:GAct) (d13:GReply) (x16:ByteArray) (d22:GCluster) (l25:List ByteArray):Option (GReply × GCluster × (List ByteArray)) :=
 (decodeD fu x16).bind fun r31 =>
 (some r31.1).bind fun d36 =>
 (bif x4.kind==4 then
 (some ({ code:=Zr.zd,n:=d36.id,values:=Zr.zd }:GReply)).bind fun d39 =>
 (some d39).bind fun d42 =>
 some (d42,d22,l25)
 else
 (bif d36.kind==1 then
 clFrame_j5 fu d13 x16 d22 l25 d36 true
 else
 clFrame_j5 fu d13 x16 d22 l25 d36 (d36.kind==3)))
def clFrame_j1 (fu:Nat) (x1:GCluster) (l3:List ByteArray) (x4:GAct) (d13:GReply):Option (GReply × GCluster × (List ByteArray)) :=
 (idx l3 x4.n).bind fun x16 =>
 (bif x4.kind != 3 then
 (delL l3 x4.n (IntKind.wrap .i64 (x4.n+1))).bind fun l151 =>
 (some ({ x1 with net:=Hole.mk }:GCluster)).bind fun d155 =>
 clFrame_j2 fu x4 d13 x16 d155 l151
 else
 clFrame_j2 fu x4 d13 x16 x1 l3)
def clFrame_j6 (fu:Nat) (x1:GCluster) (l3:List ByteArray) (x4:GAct) (c161:Bool):Option (GReply × GCluster × (List ByteArray)) :=
 (bif c161 then
 (some ({ code:=4,n:=Zr.zd,values:=Zr.zd }:GReply)).bind fun d165 =>
 (some d165).bind fun d168 =>
 some (d168,x1,l3)
 else
 clFrame_j1 fu x1 l3 x4 (Zr.zd:GReply))
def clFrameD (fu:Nat) (x1:GCluster) (l3:List ByteArray) (x4:GAct):Option (GReply × GCluster × (List ByteArray)) :=
 (bif decide (x4.n<0) then
 clFrame_j6 fu x1 l3 x4 true
 else
 clFrame_j6 fu x1 l3 x4 (decide (x4.n≥(l3.length:Int))))
set_option maxRecDepth 100000 in
set_option maxHeartbeats 4000000 in
theorem clFrame_ok {M:Mm} {w:World} {bx1:Nat} {cx1:List Value} {ux1_6:Value} {xsx1_6:List Value} {cx4:List Value} {x1:GCluster} {l3:List ByteArray} {x4:GAct} {fu:Nat} {r:GReply × GCluster × (List ByteArray)} (hS:St w (lentX [.box bx1 cx1 90,.stk ux1_6 9 1 xsx1_6]) M [.box bx1 cx1 90,.stk ux1_6 9 1 xsx1_6] w) (hcx1:rep M cx1 x1) (hkx1_6:skr M ux1_6 xsx1_6 l3) (hpx1_6:sl cx1 1993 1=[ux1_6]) (hcx4:rep M cx4 x4) (hz:clFrameD fu x1 l3 x4=some r) :
    Calls Try.prog 48 #[.pointer (some ⟨bx1,0,none⟩),.agg cx4.toArray] w (GivesL M w [.box bx1 cx1 90,.stk ux1_6 9 1 xsx1_6] (fun M' u L' => ∃ c0 k0 u1 x1,u = .agg c0.toArray∧L'=[.box bx1 k0 90,.stk u1 9 1 x1]∧rep M' c0 r.1∧rep M' k0 r.2.1∧skr M' u1 x1 r.2.2∧sl k0 1993 1=[u1])):=by
 refine Zi Try.func48 rfl 115 rfl rfl (by kernel_rfl) fun T hT => ?_
 have hT_0:T 0 = .pointer (some ⟨bx1,0,none⟩):=hT 0
 have hT_1:T 1 = .agg cx4.toArray:=hT 1
 clear hT
 have hE:=Qg w.heap.size (lentX [.box bx1 cx1 90,.stk ux1_6 9 1 xsx1_6]) M
 rw [clFrameD] at hz
 refine Qh <|Qi ?_
 refine Qt (Ys (v := .agg cx4.toArray) (cs:=cx4) hT_1 rfl hS ?_)
 intro b6 w5 hb6 hS
 refine Qt (Zf tz40 hS ?_)
 intro b8 w7 hb8 hS
 have zb8:rep M (Zr.zc GReply) (Zr.zd:GReply):=Zr.zr
 refine Qf (Qa ?_)
 refine Q0 (fun T' w' => ∃ M10 cs12 d13,Mm.ext w.heap.size (lentX [.box bx1 cx1 90,.stk ux1_6 9 1 xsx1_6]) M M10∧St w (lentX [.box bx1 cx1 90,.stk ux1_6 9 1 xsx1_6]) M10 [.box b8 cs12 40,.box b6 cx4 43,.box bx1 cx1 90,.stk ux1_6 9 1 xsx1_6] w'∧rep M10 cs12 d13∧T' 0 = .pointer (some ⟨bx1,0,none⟩)∧T' 3 = .pointer (some ⟨b6,0,none⟩)∧T' 4 = .pointer (some ⟨b8,0,none⟩)∧clFrame_j1 fu x1 l3 x4 d13=some r) ?_ ?_
 have hF157:=Qg w.heap.size (lentX [.box bx1 cx1 90,.stk ux1_6 9 1 xsx1_6]) M
 refine Q0 (fun T' w' => ∃ M159 c161,Mm.ext w.heap.size (lentX [.box bx1 cx1 90,.stk ux1_6 9 1 xsx1_6]) M M159∧St w (lentX [.box bx1 cx1 90,.stk ux1_6 9 1 xsx1_6]) M159 [.box b8 (Zr.zc GReply) 40,.box b6 cx4 43,.box bx1 cx1 90,.stk ux1_6 9 1 xsx1_6] w'∧T' 0 = .pointer (some ⟨bx1,0,none⟩)∧T' 3 = .pointer (some ⟨b6,0,none⟩)∧T' 4 = .pointer (some ⟨b8,0,none⟩)∧T' 24 = .bool c161∧clFrame_j6 fu x1 l3 x4 c161=some r) ?_ ?_
 have hF169:=Qg w.heap.size (lentX [.box bx1 cx1 90,.stk ux1_6 9 1 xsx1_6]) M
 refine Yq [.box b6 cx4 43,.box bx1 cx1 90] [] Z8 hS fun w170 hS hG171 hR172=>wy 0 rfl (Qp Kr rfl) (fun _=>hR172) <|Y0 1 rfl (Ql (.int .i64 x4.n) Z9 rfl (Yo 0 rfl) (V4 (rr hcx4))) hR172 <|wy 2 rfl (Zo rfl rfl) (fun _=>hR172) <|wy 3 rfl (Qe (.bool (decide (x4.n<0))) rfl) (fun _=>hR172) ?_
 rcases ic hz with ⟨hc173,hz⟩ | ⟨hc173,hz⟩<;>rw [hc173]
 refine Yi 4 (j:=3) rfl rfl rfl rfl (fun _=>hR172) <|Yi 5 (j:=3) rfl rfl rfl rfl (fun _=>hR172) <|Yi 6 (j:=3) rfl rfl rfl rfl (fun _=>hR172) <|Yi 7 (j:=3) rfl rfl rfl rfl (fun _=>hR172) <|Yi 8 (j:=3) rfl rfl rfl rfl (fun _=>hR172) <|Yi 9 (j:=3) rfl rfl rfl rfl (fun _=>hR172) <|Yi 10 (j:=3) rfl rfl rfl rfl (fun _=>hR172) <|Yi 11 (j:=3) rfl rfl rfl rfl (fun _=>hR172) <|wy 12 rfl (Zx (.bool true) rfl rfl) (fun _=>hR172) ?_
 refine wd (Qa ?_)
 exact ⟨M,true,hF169,hS,hT_0,rfl,rfl,rfl,hz⟩
 refine V0 4 rfl rfl rfl (Qp Kr rfl) (fun _=>hR172) <|K0 5 rfl rfl rfl (Ql (.int .i64 x4.n) Z9 rfl (Yo 0 rfl) (V4 (rr hcx4))) hR172 <|V0 6 rfl rfl rfl (Qe (.pointer (some ⟨bx1,0,none⟩)) hT_0) (fun _=>hR172) <|V0 7 rfl rfl rfl (Q6 rfl) (fun _=>hR172) <|V0 8 rfl rfl rfl (Qp Jq rfl) (fun _=>hR172) <|K0 9 rfl rfl rfl (Ql ux1_6 ts72 rfl (Yo 1 rfl) hpx1_6) hR172 ?_
 obtain ⟨a174,c174,hv174,_⟩:=Vi hkx1_6
 refine V0 10 rfl rfl rfl (Zg Vl (Vq hv174 rfl)) (fun _=>hR172) <|V0 11 rfl rfl rfl (Vb rfl rfl) (fun _=>hR172) <|wy 12 rfl (Zj (.bool (decide (x4.n≥(l3.length:Int)))) rfl rfl) (fun _=>hR172) ?_
 refine wd (Qa ?_)
 exact ⟨M,(decide (x4.n≥(l3.length:Int))),hF169,hS,hT_0,rfl,rfl,rfl,hz⟩
 rintro T160 w158 ⟨M159,c161,hx162,hS,hT160_0,hT160_3,hT160_4,hT160_24,hz⟩
 replace hcx1:=Rep.mono hx162.1 hcx1
 replace hkx1_6:=Zv hx162.1 hkx1_6
 replace zb8:=Rep.mono hx162.1 zb8
 replace hE:=Qd hE hx162
 replace hF157:=Qd hF157 hx162
 rw [clFrame_j6] at hz
 refine Qs hT160_24 (fun hc163 => ?_) (fun hc163 => ?_)
 replace hz:=Qn hz hc163
 refine Qh <|Qi ?_
 have k164_0:=V2 (Zr.zr:rep M159 (Zr.zc GReply) (Zr.zd:GReply)) (ri 4:rep M159 _ _)
 obtain ⟨d165,hd164,hz⟩:=Qb hz
 obtain ⟨cs164,hf164,ha164⟩ : ∃ cs,fillZ (([(0,1),(1,1),(2,1)]:List (Nat × Nat))[·]?) (Zr.zc GReply) [(0,.int .i64 4)]=some cs∧rep M159 cs d165:=⟨_,(Zd (Zr.zr:rep M159 (Zr.zc GReply) (Zr.zd:GReply)) rfl rfl (Rep.len (ri 4:rep M159 _ _)) (by decide) Ya),Yb (x:=({ code:=4,n:=Zr.zd,values:=Zr.zd }:GReply)) k164_0 hd164⟩
 refine Qc (Zy [(0,.int .i64 4)] tb40 (Yr rfl Vc) hf164) ?_
 obtain ⟨d168,hd167,hz⟩:=Qb hz
 refine Qt (Q7 0 3 hS rfl zb8 hT160_4 rfl ha164 rfl rfl (Lf (rr zb8) ha164) hd167 ?_)
 intro cs167 w166 hb167 ha167 hs167 hS
 refine Qf (Qa ?_)
 cases hz
 exact Q4 (Qq (Jr (j:=0) rfl hT160_4 (by rw [Rep.len hb167];exact Kq) hS rfl ⟨_,M159,_,rfl,hE,(hS.sel (H':=[.box bx1 cx1 90,.stk ux1_6 9 1 xsx1_6]) [2,3] (by decide) rfl),cs167,cx1,ux1_6,xsx1_6,rfl,rfl,hb167,hcx1,hkx1_6,hpx1_6⟩))
 replace hz:=Qo hz hc163
 refine Qv (Qa ?_)
 exact ⟨M159,(Zr.zc GReply),(Zr.zd:GReply),hF157,hS,zb8,hT160_0,hT160_3,hT160_4,hz⟩
 rintro T11 w9 ⟨M10,cs12,d13,hx14,hS,hb12,hT11_0,hT11_3,hT11_4,hz⟩
 replace hcx1:=Rep.mono hx14.1 hcx1
 replace hkx1_6:=Zv hx14.1 hkx1_6
 replace hcx4:=Rep.mono hx14.1 hcx4
 replace hE:=Qd hE hx14
 rw [clFrame_j1] at hz
 refine Qh <|W_drawq Z8 (by kernel_rfl) hS <|Yl (Qe (.pointer (some ⟨bx1,0,none⟩)) hT11_0) <|Yl (Q6 rfl) <|Yl (Qp Jq rfl) <|Yl (Ql ux1_6 ts72 rfl (bvBS (j:=2) rfl) hpx1_6) <|Yl (Qp Kr hT11_3) <|Yl (Ql (.int .i64 x4.n) Z9 rfl (bvBS (j:=1) rfl) (V4 (rr hcx4))) ?_
 obtain ⟨x16,hx15,hz⟩:=Qb hz
 obtain ⟨b15,o15,c15,hv15,hi15,hj15,hM15,hr15⟩:=skv_at (hS.skv (j:=3) rfl hkx1_6) hx15
 replace hr15:rep _ (sl xsx1_6 (o15+Int.toNat x4.n*1) 1) x16:=hr15
 refine Yl (Yj il72 rfl hv15 rfl hi15 hj15) <|Yl (Ql (.string x16) ts9 rfl (bvKS (j:=3) rfl hM15) hr15.1) <|Yl (Qj (.string x16) rfl) <|WQ_nil ?_
 intro w17 hS
 refine (Qa ?_)
 refine Q0 (fun T' w' => ∃ M19 cs21 d22 v23 xs24 l25,Mm.ext w.heap.size (lentX [.box bx1 cx1 90,.stk ux1_6 9 1 xsx1_6]) M10 M19∧St w (lentX [.box bx1 cx1 90,.stk ux1_6 9 1 xsx1_6]) M19 [.box b8 cs12 40,.box b6 cx4 43,.box bx1 cs21 90,.stk v23 9 1 xs24] w'∧rep M19 cs21 d22∧skr M19 v23 xs24 l25∧sl cs21 (0+1993) 1=[v23]∧T' 0 = .pointer (some ⟨bx1,0,none⟩)∧T' 3 = .pointer (some ⟨b6,0,none⟩)∧T' 4 = .pointer (some ⟨b8,0,none⟩)∧T' 5 = .string x16∧clFrame_j2 fu x4 d13 x16 d22 l25=some r) ?_ ?_
 have hF144:=Qg w.heap.size (lentX [.box bx1 cx1 90,.stk ux1_6 9 1 xsx1_6]) M10
 refine Qh <|Qi <|Qc (Qp fa43_0 hT11_3) <|Qc (Ql (.int .i64 x4.kind) Z9 rfl (hS.bvB 1 rfl) (Jk (rr hcx4))) <|Qc (Yn rfl rfl) ?_
 refine Qf (Qa ?_)
 refine Qs rfl (fun hc145 => ?_) (fun hc145 => ?_)
 replace hz:=Qn hz hc145
 refine Yq [.box b6 cx4 43,.box bx1 cx1 90] [13] Z8 hS fun w146 hS hG147 hR148=>wy 0 rfl (Qe (.pointer (some ⟨bx1,0,none⟩)) hT11_0) (fun _=>hR148) <|wy 1 rfl (Qe (.pointer (some ⟨bx1,0,none⟩)) hT11_0) (fun _=>hR148) <|wy 2 rfl (Q6 rfl) (fun _=>hR148) <|wy 3 rfl (Qp Jq rfl) (fun _=>hR148) <|Y0 4 rfl (Ql ux1_6 ts72 rfl (Yo 1 rfl) hpx1_6) hR148 <|wy 5 rfl (Qp Kr hT11_3) (fun _=>hR148) <|Y0 6 rfl (Ql (.int .i64 x4.n) Z9 rfl (Yo 0 rfl) (V4 (rr hcx4))) hR148 <|wy 7 rfl (Qp Kr hT11_3) (fun _=>hR148) <|Y0 8 rfl (Ql (.int .i64 x4.n) Z9 rfl (Yo 0 rfl) (V4 (rr hcx4))) hR148 <|wy 9 rfl (Zz rfl rfl) (fun _=>hR148) ?_
 obtain ⟨l151,hr150,hz⟩:=Qb hz
 refine w1 10 rfl (O_delS (j:=3) cb66 (Jo rfl rfl rfl) hS rfl hkx1_6 hr150 ?_)
 intro v150 xs150 w149 hk150 hS
 refine Yp hS hG147 fun hR152=>wy 11 rfl (Q6 rfl) (fun _=>hR152) <|wy 12 rfl (Qp Jq rfl) (fun _=>hR152) ?_
 obtain ⟨d155,hd154,hz⟩:=Qb hz
 refine w1 13 rfl (Q7 2 1 hS rfl hcx1 rfl rfl (Kj hk150) (skr_cells hk150) rfl (GCluster.u6 (rr hcx1) (Lf (GCluster.p6 (rr hcx1)) (Kj hk150))) hd154 ?_)
 intro cs154 w153 hb154 ha154 hs154 hS
 have hp156:=hs154
 refine ⟨nB,?_⟩
 refine wd (Qa ?_)
 exact ⟨M10,cs154,d155,v150,xs150,l151,hF144,hS,hb154,hk150,hp156,hT11_0,hT11_3,hT11_4,rfl,hz⟩
 replace hz:=Qo hz hc145
 refine Qv (Qa ?_)
 exact ⟨M10,cx1,x1,ux1_6,xsx1_6,l3,hF144,hS,hcx1,hkx1_6,hpx1_6,hT11_0,hT11_3,hT11_4,rfl,hz⟩
 rintro T20 w18 ⟨M19,cs21,d22,v23,xs24,l25,hx28,hS,hb21,hk26,hp27,hT20_0,hT20_3,hT20_4,hT20_5,hz⟩
 rw [clFrame_j2] at hz
 refine Qh <|Qi <|Qc (Qe (.string x16) hT20_5) ?_
 obtain ⟨r31,hr30,hz⟩:=Qb hz
 refine Qt (Yt (vs:=[.string x16]) (rv:=(fun M' u => ∃ c0,u = .tuple #[.agg c0.toArray,.int .i64 r31.2]∧rep M' c0 r31.1)) cb67 (Zs rfl) hS (decode_ok hS.agree hr30) ?_)
 intro u30 M30 w29 hx30 hu30 hS
 obtain ⟨c30_0,hq30,f30_0⟩:=hu30
 subst hq30
 replace hcx4:=Rep.mono (hx28.1.trans hx30.1) hcx4
 replace hb12:=Rep.mono (hx28.1.trans hx30.1) hb12
 replace hb21:=Rep.mono hx30.1 hb21
 replace hk26:=Zv hx30.1 hk26
 replace hE:=Qd hE (hx28.trans hx30)
 refine Qc (Qe (.tuple #[.agg c30_0.toArray,.int .i64 r31.2]) rfl) <|Qc (Za (v := .agg c30_0.toArray) rfl rfl) <|Qc (Za (v := .int .i64 r31.2) rfl rfl) ?_
 refine Qt (Zf tz118 hS ?_)
 intro b33 w32 hb33 hS
 have zb33:rep M30 (Zr.zc GFrame) (Zr.zd:GFrame):=Zr.zr
 obtain ⟨d36,hd35,hz⟩:=Qb hz
 refine Qt (Q7 0 7 hS rfl zb33 rfl rfl f30_0 rfl rfl (Lf (rr zb33) f30_0) hd35 ?_)
 intro cs35 w34 hb35 ha35 hs35 hS
 refine Qc (Qj (.int .i64 r31.2) rfl) ?_
 refine Qf (Qa ?_)
 refine Qh <|Qh <|Qi <|Qc (Qp fa43_0 hT20_3) <|Qc (Ql (.int .i64 x4.kind) Z9 rfl (hS.bvB 2 rfl) (Jk (rr hcx4))) <|Qc (Yd rfl rfl) ?_
 refine Qf (Qa ?_)
 refine Qs rfl (fun hc37 => ?_) (fun hc37 => ?_)
 replace hz:=Qn hz hc37
 refine Qh <|Qi <|Qc (Qp Ym rfl) <|Qc (Ql (.int .i64 d36.id) Z9 rfl (hS.bvB 0 rfl) (Yc (rr hb35))) ?_
 have k38_0:=GReply.w1 (Zr.zr:rep M30 (Zr.zc GReply) (Zr.zd:GReply)) (ri d36.id:rep M30 _ _)
 obtain ⟨d39,hd38,hz⟩:=Qb hz
 obtain ⟨cs38,hf38,ha38⟩ : ∃ cs,fillZ (([(0,1),(1,1),(2,1)]:List (Nat × Nat))[·]?) (Zr.zc GReply) [(1,.int .i64 d36.id)]=some cs∧rep M30 cs d39:=⟨_,(Zd (Zr.zr:rep M30 (Zr.zc GReply) (Zr.zd:GReply)) rfl rfl (Rep.len (ri d36.id:rep M30 _ _)) (by decide) Ya),Yb (x:=({ code:=Zr.zd,n:=d36.id,values:=Zr.zd }:GReply)) k38_0 hd38⟩
 refine Qc (Zy [(1,.int .i64 d36.id)] tb40 (Yr rfl Vc) hf38) ?_
 obtain ⟨d42,hd41,hz⟩:=Qb hz
 refine Qt (Q7 1 3 hS rfl hb12 hT20_4 rfl ha38 rfl rfl (Lf (rr hb12) ha38) hd41 ?_)
 intro cs41 w40 hb41 ha41 hs41 hS
 refine Qf (Qa ?_)
 cases hz
 exact Q4 (Qq (Jr (j:=1) rfl hT20_4 (by rw [Rep.len hb41];exact Kq) hS rfl ⟨_,M30,_,rfl,hE,(hS.sel (H':=[.box bx1 cs21 90,.stk v23 9 1 xs24]) [3,4] (by decide) rfl),cs41,cs21,v23,xs24,rfl,rfl,hb41,hb21,hk26,hp27⟩))
 replace hz:=Qo hz hc37
 refine Qv (Qa ?_)
 refine Q0 (fun T' w' => ∃ M44 cs46 d47 cs48 d49 v50 xs51 l52,Mm.ext w.heap.size (lentX [.box bx1 cx1 90,.stk ux1_6 9 1 xsx1_6]) M30 M44∧St w (lentX [.box bx1 cx1 90,.stk ux1_6 9 1 xsx1_6]) M44 [.box b33 cs35 118,.box b8 cs46 40,.box b6 cx4 43,.box bx1 cs48 90,.stk v50 9 1 xs51] w'∧rep M44 cs46 d47∧rep M44 cs48 d49∧skr M44 v50 xs51 l52∧sl cs48 (0+1993) 1=[v50]∧T' 0 = .pointer (some ⟨bx1,0,none⟩)∧T' 4 = .pointer (some ⟨b8,0,none⟩)∧T' 6 = .pointer (some ⟨b33,0,none⟩)∧clFrame_j3 fu d36 d47 d49 l52=some r) ?_ ?_
 have hF120:=Qg w.heap.size (lentX [.box bx1 cx1 90,.stk ux1_6 9 1 xsx1_6]) M30
 refine Q0 (fun T' w' => ∃ M122 c124,Mm.ext w.heap.size (lentX [.box bx1 cx1 90,.stk ux1_6 9 1 xsx1_6]) M30 M122∧St w (lentX [.box bx1 cx1 90,.stk ux1_6 9 1 xsx1_6]) M122 [.box b33 cs35 118,.box b8 cs12 40,.box b6 cx4 43,.box bx1 cs21 90,.stk v23 9 1 xs24] w'∧T' 0 = .pointer (some ⟨bx1,0,none⟩)∧T' 4 = .pointer (some ⟨b8,0,none⟩)∧T' 5 = .string x16∧T' 6 = .pointer (some ⟨b33,0,none⟩)∧T' 68 = .bool c124∧clFrame_j5 fu d13 x16 d22 l25 d36 c124=some r) ?_ ?_
 have hF142:=Qg w.heap.size (lentX [.box bx1 cx1 90,.stk ux1_6 9 1 xsx1_6]) M30
 refine Qi <|Qc (Qp Vw rfl) <|Qc (Ql (.int .i64 d36.kind) Z9 rfl (hS.bvB 0 rfl) (Y1 (rr hb35))) <|Qc (Yd rfl rfl) <|Qc (Qe (.bool (d36.kind==1)) rfl) ?_
 rcases ic hz with ⟨hc143,hz⟩ | ⟨hc143,hz⟩<;>rw [hc143]
 refine Q3 4 rfl ?_
 refine Qf (Qa ?_)
 exact ⟨M30,true,hF142,hS,hT20_0,hT20_4,hT20_5,rfl,rfl,hz⟩
 refine Qk rfl rfl (Qp Vw rfl) <|Qk rfl rfl (Ql (.int .i64 d36.kind) Z9 rfl (hS.bvB 0 rfl) (Y1 (rr hb35))) <|Qk rfl rfl (Yd rfl rfl) <|Qc (Zj (.bool (d36.kind==3)) rfl rfl) ?_
 refine Qf (Qa ?_)
 exact ⟨M30,(d36.kind==3),hF142,hS,hT20_0,hT20_4,hT20_5,rfl,rfl,hz⟩
 rintro T123 w121 ⟨M122,c124,hx125,hS,hT123_0,hT123_4,hT123_5,hT123_6,hT123_68,hz⟩
 replace hb12:=Rep.mono hx125.1 hb12
 replace hb21:=Rep.mono hx125.1 hb21
 replace hk26:=Zv hx125.1 hk26
 replace hb35:=Rep.mono hx125.1 hb35
 replace hE:=Qd hE hx125
 replace hF120:=Qd hF120 hx125
 rw [clFrame_j5] at hz
 refine Qs hT123_68 (fun hc126 => ?_) (fun hc126 => ?_)
 replace hz:=Qn hz hc126
 refine Qh <|Qh <|Qi <|Qc (Qe (.pointer (some ⟨bx1,0,none⟩)) hT123_0) <|Qc (Qp V8 hT123_6) <|Qc (Ql (.int .i64 d36.node) Z9 rfl (hS.bvB 0 rfl) (Vf (rr hb35))) ?_
 have ha127:=(rr hb35)
 refine Qc (Zh K7 hT123_6 (hS.bvB 0 rfl) (Rep.len ha127)) <|Qc (Qe (.string x16) hT123_5) ?_
 obtain ⟨r130,hr129,hz⟩:=Qb hz
 refine Qt (Zu (vs:=[.pointer (some ⟨bx1,0,none⟩),.int .i64 d36.node,.agg (sl cs35 (0) 7).toArray,.string x16]) (L:=[.box bx1 cs21 90,.stk v23 9 1 xs24]) (R:=[.box b33 cs35 118,.box b8 cs12 40,.box b6 cx4 43]) (rv:=(fun M' u L' => ∃ k0 u1 x1,u = .int .i64 r130.1∧L'=[.box bx1 k0 90,.stk u1 9 1 x1]∧rep M' k0 r130.2.1∧skr M' u1 x1 r130.2.2∧sl k0 1993 1=[u1])) cb68 (args4 rfl rfl rfl rfl) hS (hS.sel [3,4,0,1,2] (by decide) rfl) (fun hS=>clCome_ok hS hb21 hk26 hp27 ha127 hr129) ?_)
 rintro u129 M129 w128 L129 hx129 ⟨k0_129,u1_129,x1_129,rfl,hL129,f129_0,f129_1,f129_2⟩ hS
 replace hS:=hS _ hL129
 replace hb12:=Rep.mono hx129.1 hb12
 replace hb35:=Rep.mono hx129.1 hb35
 replace hE:=Qd hE hx129
 refine Qc (Qj (.int .i64 r130.1) rfl) ?_
 refine Qf (Qa ?_)
 refine Qh <|Qi <|Qc (Qe (.int .i64 r130.1) rfl) <|Qc (Yn rfl rfl) ?_
 refine Qf (Qa ?_)
 refine Qs rfl (fun hc131 => ?_) (fun hc131 => ?_)
 replace hz:=Qn hz hc131
 refine Qh <|Qi <|Qc (Qe (.int .i64 r130.1) rfl) ?_
 have k132_0:=V2 (Zr.zr:rep M129 (Zr.zc GReply) (Zr.zd:GReply)) (ri r130.1:rep M129 _ _)
 obtain ⟨d133,hd132,hz⟩:=Qb hz
 obtain ⟨cs132,hf132,ha132⟩ : ∃ cs,fillZ (([(0,1),(1,1),(2,1)]:List (Nat × Nat))[·]?) (Zr.zc GReply) [(0,.int .i64 r130.1)]=some cs∧rep M129 cs d133:=⟨_,(Zd (Zr.zr:rep M129 (Zr.zc GReply) (Zr.zd:GReply)) rfl rfl (Rep.len (ri r130.1:rep M129 _ _)) (by decide) Ya),Yb (x:=({ code:=r130.1,n:=Zr.zd,values:=Zr.zd }:GReply)) k132_0 hd132⟩
 refine Qc (Zy [(0,.int .i64 r130.1)] tb40 (Yr rfl Vc) hf132) ?_
 obtain ⟨d136,hd135,hz⟩:=Qb hz
 refine Qt (Q7 3 3 hS rfl hb12 hT123_4 rfl ha132 rfl rfl (Lf (rr hb12) ha132) hd135 ?_)
 intro cs135 w134 hb135 ha135 hs135 hS
 refine Qf (Qa ?_)
 cases hz
 exact Q4 (Qq (Qq (Jr (j:=3) rfl hT123_4 (by rw [Rep.len hb135];exact Kq) hS rfl ⟨_,M129,_,rfl,hE,(hS.sel (H':=[.box bx1 k0_129 90,.stk u1_129 9 1 x1_129]) [0,1] (by decide) rfl),cs135,k0_129,u1_129,x1_129,rfl,rfl,hb135,f129_0,f129_1,f129_2⟩)))
 replace hz:=Qo hz hc131
 refine Qv (Qa ?_)
 refine Qh <|Qi <|Qc (Qp Ym hT123_6) <|Qc (Ql (.int .i64 d36.id) Z9 rfl (hS.bvB 2 rfl) (Yc (rr hb35))) ?_
 have k137_0:=GReply.w1 (Zr.zr:rep M129 (Zr.zc GReply) (Zr.zd:GReply)) (ri d36.id:rep M129 _ _)
 obtain ⟨d138,hd137,hz⟩:=Qb hz
 obtain ⟨cs137,hf137,ha137⟩ : ∃ cs,fillZ (([(0,1),(1,1),(2,1)]:List (Nat × Nat))[·]?) (Zr.zc GReply) [(1,.int .i64 d36.id)]=some cs∧rep M129 cs d138:=⟨_,(Zd (Zr.zr:rep M129 (Zr.zc GReply) (Zr.zd:GReply)) rfl rfl (Rep.len (ri d36.id:rep M129 _ _)) (by decide) Ya),Yb (x:=({ code:=Zr.zd,n:=d36.id,values:=Zr.zd }:GReply)) k137_0 hd137⟩
 refine Qc (Zy [(1,.int .i64 d36.id)] tb40 (Yr rfl Vc) hf137) ?_
 obtain ⟨d141,hd140,hz⟩:=Qb hz
 refine Qt (Q7 3 3 hS rfl hb12 hT123_4 rfl ha137 rfl rfl (Lf (rr hb12) ha137) hd140 ?_)
 intro cs140 w139 hb140 ha140 hs140 hS
 refine Qf (Qa ?_)
 cases hz
 exact Q4 (Qq (Jr (j:=3) rfl hT123_4 (by rw [Rep.len hb140];exact Kq) hS rfl ⟨_,M129,_,rfl,hE,(hS.sel (H':=[.box bx1 k0_129 90,.stk u1_129 9 1 x1_129]) [0,1] (by decide) rfl),cs140,k0_129,u1_129,x1_129,rfl,rfl,hb140,f129_0,f129_1,f129_2⟩))
 replace hz:=Qo hz hc126
 refine Qv (Qa ?_)
 exact ⟨M122,cs12,d13,cs21,d22,v23,xs24,l25,hF120,hS,hb12,hb21,hk26,hp27,hT123_0,hT123_4,hT123_6,hz⟩
 rintro T45 w43 ⟨M44,cs46,d47,cs48,d49,v50,xs51,l52,hx55,hS,hb46,hb48,hk53,hp54,hT45_0,hT45_4,hT45_6,hz⟩
 replace hb35:=Rep.mono hx55.1 hb35
 replace hE:=Qd hE hx55
 rw [clFrame_j3] at hz
 refine Q0 (fun T' w' => ∃ M57 b59 cs59 d60 v62 l61 y63,Mm.ext w.heap.size (lentX [.box bx1 cx1 90,.stk ux1_6 9 1 xsx1_6]) M44 M57∧St w (lentX [.box bx1 cx1 90,.stk ux1_6 9 1 xsx1_6]) M57 [.box b59 cs59 49,.box b33 cs35 118,.box b8 cs46 40,.box b6 cx4 43,.box bx1 cs48 90,.stk v50 9 1 xs51] w'∧rep M57 cs59 d60∧w.heap.size≤b59∧repL M57 v62 l61∧T' 9 = .pointer (some ⟨b59,0,none⟩)∧T' 0 = .pointer (some ⟨bx1,0,none⟩)∧T' 4 = .pointer (some ⟨b8,0,none⟩)∧T' 6 = .pointer (some ⟨b33,0,none⟩)∧T' 10=v62∧T' 11 = .int .i64 y63∧clFrame_j4 fu d36 d49 l52 d60 l61 y63=some r) ?_ ?_
 have hF96:=Qg w.heap.size (lentX [.box bx1 cx1 90,.stk ux1_6 9 1 xsx1_6]) M44
 refine Yq [.box b33 cs35 118,.box bx1 cs48 90] [] Z8 hS fun w97 hS hG98 hR99=>wy 0 rfl (Qe (.pointer (some ⟨bx1,0,none⟩)) hT45_0) (fun _=>hR99) <|wy 1 rfl (Qp Ym hT45_6) (fun _=>hR99) <|Y0 2 rfl (Ql (.int .i64 d36.id) Z9 rfl (Yo 0 rfl) (Yc (rr hb35))) hR99 <|wy 3 rfl (Q6 rfl) (fun _=>hR99) <|wy 4 rfl (Qp fa90_4 rfl) (fun _=>hR99) ?_
 obtain ⟨u100,hx101,hz⟩:=Qb hz
 obtain ⟨hx101a,hx101b⟩:=Qw hx101
 refine wy 5 rfl (Zb ia88 rfl rfl hx101a hx101b) (fun _=>hR99) ?_
 obtain ⟨x102,hx103,hz⟩:=Qb hz
 have ha104:=(vp (k:=24) rfl rfl (Vd (rr hb48)) hx103)
 refine Y0 6 rfl (Zh Y9 rfl (Yo 1 rfl) (Rep.len ha104)) hR99 <|wy 7 rfl (Qp Ym hT45_6) (fun _=>hR99) <|Y0 8 rfl (Ql (.int .i64 d36.id) Z9 rfl (Yo 0 rfl) (Yc (rr hb35))) hR99 ?_
 have ha105:=(rr hb35)
 refine Y0 9 rfl (Zh K7 hT45_6 (Yo 0 rfl) (Rep.len ha105)) hR99 ?_
 obtain ⟨r108,hr107,hz⟩:=Qb hz
 obtain ⟨d113,hd112,hz⟩:=Qb hz
 refine WB_two (i:=10) (j:=15) (by kernel_rfl) rfl rfl (Yt (vs:=[.agg (sl cs48 (0+1224+Int.toNat d36.id*24) 24).toArray,.int .i64 d36.id,.agg (sl cs35 (0) 7).toArray]) (rv:=(fun M' u => ∃ c0 v1,u = .tuple #[.agg c0.toArray,v1,.int .i64 r108.2.2]∧rep M' c0 r108.1∧repL M' v1 r108.2.1)) cb69 (Jo rfl rfl rfl) hS (postTake_ok hS.agree ha104 ha105 hr107) ?_) (Zf tz49 hS ?_)
 intro u107 M107 w106 hx107 hu107 hS
 obtain ⟨c107_0,v107_1,hq107,f107_0,f107_1⟩:=hu107
 subst hq107
 replace hF96:=Qd hF96 hx107
 replace hG98:=Qd hG98 hx107
 refine Yp hS hG98 fun hR114=>wy 11 rfl (Qe (.tuple #[.agg c107_0.toArray,v107_1,.int .i64 r108.2.2]) rfl) (fun _=>hR114) <|wy 12 rfl (Za (v := .agg c107_0.toArray) rfl rfl) (fun _=>hR114) <|wy 13 rfl (Za (v:=v107_1) rfl rfl) (fun _=>hR114) <|wy 14 rfl (Za (v := .int .i64 r108.2.2) rfl rfl) (fun _=>hR114) ?_
 refine w1 15 rfl (Zf tz49 hS ?_)
 intro b110 w109 hb110 hS
 have zb110:rep M107 (Zr.zc GCase) (Zr.zd:GCase):=Zr.zr
 refine Yp hS hG98 fun hR115 => ?_
 refine w1 16 rfl (Q7 0 24 hS rfl zb110 rfl rfl f107_0 rfl rfl (Lf (rr zb110) f107_0) hd112 ?_)
 intro cs112 w111 hb112 ha112 hs112 hS
 refine Yp hS hG98 fun hR116=>wy 17 rfl (Qj (v107_1) rfl) (fun _=>hR116) <|wy 18 rfl (Qj (.int .i64 r108.2.2) rfl) (fun _=>hR116) ?_
 refine wd (Qa ?_)
 exact ⟨M107,b110,cs112,d113,v107_1,r108.2.1,r108.2.2,hF96,hS,hb112,hb110,f107_1,rfl,hT45_0,hT45_4,hT45_6,rfl,rfl,hz⟩
 intro b110 w109 hb110 hS
 have zb110:rep M44 (Zr.zc GCase) (Zr.zd:GCase):=Zr.zr
 refine Yp hS hG98 fun hR117 => ?_
 refine w1 10 rfl (Yt (vs:=[.agg (sl cs48 (0+1224+Int.toNat d36.id*24) 24).toArray,.int .i64 d36.id,.agg (sl cs35 (0) 7).toArray]) (rv:=(fun M' u => ∃ c0 v1,u = .tuple #[.agg c0.toArray,v1,.int .i64 r108.2.2]∧rep M' c0 r108.1∧repL M' v1 r108.2.1)) cb69 (Jo rfl rfl rfl) hS (postTake_ok hS.agree ha104 ha105 hr107) ?_)
 intro u107 M107 w106 hx107 hu107 hS
 obtain ⟨c107_0,v107_1,hq107,f107_0,f107_1⟩:=hu107
 subst hq107
 replace zb110:=Rep.mono hx107.1 zb110
 replace hF96:=Qd hF96 hx107
 replace hG98:=Qd hG98 hx107
 refine Yp hS hG98 fun hR118=>wy 11 rfl (Qe (.tuple #[.agg c107_0.toArray,v107_1,.int .i64 r108.2.2]) rfl) (fun _=>hR118) <|wy 12 rfl (Za (v := .agg c107_0.toArray) rfl rfl) (fun _=>hR118) <|wy 13 rfl (Za (v:=v107_1) rfl rfl) (fun _=>hR118) <|wy 14 rfl (Za (v := .int .i64 r108.2.2) rfl rfl) (fun _=>hR118) ?_
 refine w1 16 rfl (Q7 0 24 hS rfl zb110 rfl rfl f107_0 rfl rfl (Lf (rr zb110) f107_0) hd112 ?_)
 intro cs112 w111 hb112 ha112 hs112 hS
 refine Yp hS hG98 fun hR119=>wy 17 rfl (Qj (v107_1) rfl) (fun _=>hR119) <|wy 18 rfl (Qj (.int .i64 r108.2.2) rfl) (fun _=>hR119) ?_
 refine wd (Qa ?_)
 exact ⟨M107,b110,cs112,d113,v107_1,r108.2.1,r108.2.2,hF96,hS,hb112,hb110,f107_1,rfl,hT45_0,hT45_4,hT45_6,rfl,rfl,hz⟩
 rintro T58 w56 ⟨M57,b59,cs59,d60,v62,l61,y63,hx64,hS,hb59,hs59,hv62,hT58_9,hT58_0,hT58_4,hT58_6,hT58_10,hT58_11,hz⟩
 replace hb35:=Rep.mono hx64.1 hb35
 replace hb46:=Rep.mono hx64.1 hb46
 replace hb48:=Rep.mono hx64.1 hb48
 replace hk53:=Zv hx64.1 hk53
 replace hE:=Qd hE hx64
 rw [clFrame_j4] at hz
 refine Qh <|Qh <|Qi <|Qc (Qe (.int .i64 y63) hT58_11) <|Qc (Yn rfl rfl) ?_
 refine Qf (Qa ?_)
 refine Qs rfl (fun hc65 => ?_) (fun hc65 => ?_)
 replace hz:=Qn hz hc65
 refine Qh <|Qi <|Qc (Qe (.int .i64 y63) hT58_11) ?_
 have k66_0:=V2 (Zr.zr:rep M57 (Zr.zc GReply) (Zr.zd:GReply)) (ri y63:rep M57 _ _)
 obtain ⟨d67,hd66,hz⟩:=Qb hz
 obtain ⟨cs66,hf66,ha66⟩ : ∃ cs,fillZ (([(0,1),(1,1),(2,1)]:List (Nat × Nat))[·]?) (Zr.zc GReply) [(0,.int .i64 y63)]=some cs∧rep M57 cs d67:=⟨_,(Zd (Zr.zr:rep M57 (Zr.zc GReply) (Zr.zd:GReply)) rfl rfl (Rep.len (ri y63:rep M57 _ _)) (by decide) Ya),Yb (x:=({ code:=y63,n:=Zr.zd,values:=Zr.zd }:GReply)) k66_0 hd66⟩
 refine Qc (Zy [(0,.int .i64 y63)] tb40 (Yr rfl Vc) hf66) ?_
 obtain ⟨d70,hd69,hz⟩:=Qb hz
 refine Qt (Q7 2 3 hS rfl hb46 hT58_4 rfl ha66 rfl rfl (Lf (rr hb46) ha66) hd69 ?_)
 intro cs69 w68 hb69 ha69 hs69 hS
 refine Qf (Qa ?_)
 cases hz
 exact Q4 (Qq (Jr (j:=2) rfl hT58_4 (by rw [Rep.len hb69];exact Kq) hS rfl ⟨_,M57,_,rfl,hE,(hS.sel (H':=[.box bx1 cs48 90,.stk v50 9 1 xs51]) [4,5] (by decide) rfl),cs69,cs48,v50,xs51,rfl,rfl,hb69,hb48,hk53,hp54⟩))
 replace hz:=Qo hz hc65
 refine Qv (Qa ?_)
 refine Qh <|Yq [.box b59 cs59 49,.box b33 cs35 118] [] Z8 hS fun w71 hS hG72 hR73=>wy 0 rfl (Qe (.pointer (some ⟨bx1,0,none⟩)) hT58_0) (fun _=>hR73) <|wy 1 rfl (Qp Ym hT58_6) (fun _=>hR73) <|Y0 2 rfl (Ql (.int .i64 d36.id) Z9 rfl (Yo 1 rfl) (Yc (rr hb35))) hR73 ?_
 have ha74:=(rr hb59)
 refine Y0 3 rfl (Zh Y9 hT58_9 (Yo 0 rfl) (Rep.len ha74)) hR73 <|wy 4 rfl (Q6 rfl) (fun _=>hR73) <|wy 5 rfl (Qp fa90_4 rfl) (fun _=>hR73) ?_
 obtain ⟨u75,hx76,hz⟩:=Qb hz
 obtain ⟨hx76a,hx76b⟩:=Qw hx76
 refine wy 6 rfl (Zb ia88 rfl rfl hx76a hx76b) (fun _=>hR73) ?_
 obtain ⟨x79,hx80,hz⟩:=Qb hz
 obtain ⟨a81,hx82,hz⟩:=Qb hz
 obtain ⟨d83,hd78,hz⟩:=Qb hz
 have hq85:=(Zm hx80)
 refine w1 7 rfl (Q7 4 24 hS rfl hb48 rfl rfl ha74 rfl rfl (GCluster.u4 (rr hb48) (vu (k:=24) rfl rfl (Vd (rr hb48)) (Lf (vp (k:=24) rfl rfl (Vd (rr hb48)) hx80) ha74) hx82)) hd78 ?_)
 intro cs78 w77 hb78 ha78 hs78 hS
 have hp84:=(ha78 (by omega)).trans hp54
 refine Yp hS hG72 fun hR86 => ?_
 refine wd (Qa ?_)
 refine Qh <|Qi <|Qc (Qe (.pointer (some ⟨bx1,0,none⟩)) hT58_0) <|Qc (Qe (v62) hT58_10) ?_
 obtain ⟨r89,hr88,hz⟩:=Qb hz
 refine Qt (Zu (vs:=[.pointer (some ⟨bx1,0,none⟩),v62]) (L:=[.box bx1 cs78 90,.stk v50 9 1 xs51]) (R:=[.box b59 cs59 49,.box b33 cs35 118,.box b8 cs46 40,.box b6 cx4 43]) (rv:=(fun M' u L' => ∃ k0 u1 x1,u = .tuple #[]∧L'=[.box bx1 k0 90,.stk u1 9 1 x1]∧rep M' k0 r89.1∧skr M' u1 x1 r89.2∧sl k0 1993 1=[u1])) cb49 (Z7 rfl rfl) hS (hS.sel [4,5,0,1,2,3] (by decide) rfl) (fun hS=>clSend_ok hS hb78 hk53 hp84 hv62 hr88) ?_)
 rintro u88 M88 w87 L88 hx88 ⟨k0_88,u1_88,x1_88,rfl,hL88,f88_0,f88_1,f88_2⟩ hS
 replace hS:=hS _ hL88
 replace hb35:=Rep.mono hx88.1 hb35
 refine Qf (Qa ?_)
 refine Qh <|Qi <|Qc (Qe (.pointer (some ⟨bx1,0,none⟩)) hT58_0) <|Qc (Qp Ym hT58_6) <|Qc (Ql (.int .i64 d36.id) Z9 rfl (hS.bvB 3 rfl) (Yc (rr hb35))) ?_
 obtain ⟨r92,hr91,hz⟩:=Qb hz
 refine Qt (Zu (vs:=[.pointer (some ⟨bx1,0,none⟩),.int .i64 d36.id]) (L:=[.box bx1 k0_88 90]) (R:=[.stk u1_88 9 1 x1_88,.box b59 cs59 49,.box b33 cs35 118,.box b8 cs46 40,.box b6 cx4 43]) (rv:=(fun M' u L' => ∃ c0,u = .agg c0.toArray∧L'=[.box bx1 k0_88 90]∧rep M' c0 r92)) cb51 (Z7 rfl rfl) hS (hS.sel [0,1,2,3,4,5] (by decide) rfl) (fun hS=>clTold_ok hS f88_0 hr91) ?_)
 rintro u91 M91 w90 L91 hx91 ⟨c0_91,rfl,hL91,f91_0⟩ hS
 replace hS:=hS _ hL91
 replace hb46:=Rep.mono (hx88.1.trans hx91.1) hb46
 replace f88_0:=Rep.mono hx91.1 f88_0
 replace f88_1:=Zv hx91.1 f88_1
 replace hE:=Qd hE (hx88.trans hx91)
 obtain ⟨d95,hd94,hz⟩:=Qb hz
 refine Qt (Q7 4 3 hS rfl hb46 hT58_4 rfl f91_0 rfl rfl (Lf (rr hb46) f91_0) hd94 ?_)
 intro cs94 w93 hb94 ha94 hs94 hS
 refine Qf (Qa ?_)
 cases hz
 exact Q4 (Jr (j:=4) rfl hT58_4 (by rw [Rep.len hb94];exact Kq) hS rfl ⟨_,M91,_,rfl,hE,(hS.sel (H':=[.box bx1 k0_88 90,.stk u1_88 9 1 x1_88]) [0,1] (by decide) rfl),cs94,k0_88,u1_88,x1_88,rfl,rfl,hb94,f88_0,f88_1,f88_2⟩)
def clPower_j1 (d13:GReply) (d15:GCluster) (l18:List ByteArray):Option (GReply × GCluster × (List ByteArray)) :=
 (some ({ code:=Zr.zd,n:=Zr.zd,values:=Zr.zd }:GReply)).bind fun d23 =>
 (some d23).bind fun d26 =>
 some (d26,d15,l18)
def clPower_j2 (fu:Nat) (x1:GCluster) (l3:List ByteArray) (x4:GAct) (c31:Bool):Option (GReply × GCluster × (List ByteArray)) :=
 (bif c31 then
 (some ({ code:=2,n:=Zr.zd,values:=Zr.zd }:GReply)).bind fun d35 =>
 (some d35).bind fun d38 =>
 some (d38,x1,l3)
 else
 (inR x4.n 6).bind fun _ =>
 (idxV x1.down x4.n).bind fun x41 =>
 (bif !(x41==(x4.kind==8)) then
 (some ({ code:=6,n:=Zr.zd,values:=Zr.zd }:GReply)).bind fun d46 =>
 (some d46).bind fun d49 =>
 some (d49,x1,l3)
 else
 (bif x4.kind==7 then
 (inR x4.n 6).bind fun _ =>
 (idxV x1.tear x4.n).bind fun x58 =>
 (setV x1.tear x4.n (IntKind.wrap .i64 (x4.m+1))).bind fun a60 =>
 (some ({ x1 with tear:=a60 }:GCluster)).bind fun d62 =>
 clPower_j1 (Zr.zd:GReply) d62 l3
 else
 (bif x4.kind==6 then
 (some ({ entries:=Zr.zd,order:=Zr.zd,values:=Zr.zd }:GNode)).bind fun d71 =>
 (inR x4.n 6).bind fun _ =>
 (idxV x1.nodes x4.n).bind fun x76 =>
 (setV x1.nodes x4.n d71).bind fun a78 =>
 (some ({ x1 with nodes:=a78 }:GCluster)).bind fun d80 =>
 (inR x4.n 6).bind fun _ =>
 (idxV d80.down x4.n).bind fun x88 =>
 (setV d80.down x4.n true).bind fun a90 =>
 (some ({ d80 with down:=a90 }:GCluster)).bind fun d92 =>
 (inR x4.n 6).bind fun _ =>
 (idxV d92.tear x4.n).bind fun x100 =>
 (setV d92.tear x4.n 0).bind fun a102 =>
 (some ({ d92 with tear:=a102 }:GCluster)).bind fun d104 =>
 clPower_j1 (Zr.zd:GReply) d104 l3
 else
 (inR x4.n 6).bind fun _ =>
 (idxV x1.logs x4.n).bind fun x110 =>
 (bkReadD fu x110).bind fun r114 =>
 (inR x4.n 6).bind fun _ =>
 (idxV x1.logs x4.n).bind fun x120 =>
 (cutB x120 none (some r114.2)).bind fun s123 =>
 (inR x4.n 6).bind fun _ =>
 (chkS s123).bind fun _ =>
 (idxV x1.logs x4.n).bind fun x129 =>
 (setV x1.logs x4.n s123).bind fun a131 =>
 (some ({ x1 with logs:=a131 }:GCluster)).bind fun d133 =>
 (nodeReplayD fu x4.n r114.1).bind fun r141 =>
 (inR x4.n 6).bind fun _ =>
 (idxV d133.nodes x4.n).bind fun x147 =>
 (setV d133.nodes x4.n r141.1).bind fun a149 =>
 (some ({ d133 with nodes:=a149 }:GCluster)).bind fun d151 =>
 (inR x4.n 6).bind fun _ =>
 (idxV d151.down x4.n).bind fun x159 =>
 (setV d151.down x4.n false).bind fun a161 =>
 (some ({ d151 with down:=a161 }:GCluster)).bind fun d163 =>
 clPower_j1 (Zr.zd:GReply) d163 l3))))
def clPowerD (fu:Nat) (x1:GCluster) (l3:List ByteArray) (x4:GAct):Option (GReply × GCluster × (List ByteArray)) :=
 (bif decide (x4.n<0) then
 clPower_j2 fu x1 l3 x4 true
 else
 (bif decide (x4.n≥6) then
 clPower_j2 fu x1 l3 x4 true
 else
 (bif x4.kind==7 then
 (bif decide (x4.m<0) then
 clPower_j2 fu x1 l3 x4 true
 else
 clPower_j2 fu x1 l3 x4 (decide (x4.m>400)))
 else
 clPower_j2 fu x1 l3 x4 false)))
set_option maxRecDepth 100000 in
set_option maxHeartbeats 4000000 in
theorem clPower_ok {M:Mm} {w:World} {bx1:Nat} {cx1:List Value} {ux1_6:Value} {xsx1_6:List Value} {cx4:List Value} {x1:GCluster} {l3:List ByteArray} {x4:GAct} {fu:Nat} {r:GReply × GCluster × (List ByteArray)} (hS:St w (lentX [.box bx1 cx1 90,.stk ux1_6 9 1 xsx1_6]) M [.box bx1 cx1 90,.stk ux1_6 9 1 xsx1_6] w) (hcx1:rep M cx1 x1) (hkx1_6:skr M ux1_6 xsx1_6 l3) (hpx1_6:sl cx1 1993 1=[ux1_6]) (hcx4:rep M cx4 x4) (hz:clPowerD fu x1 l3 x4=some r) :
    Calls Try.prog 52 #[.pointer (some ⟨bx1,0,none⟩),.agg cx4.toArray] w (GivesL M w [.box bx1 cx1 90,.stk ux1_6 9 1 xsx1_6] (fun M' u L' => ∃ c0 k0 u1 x1,u = .agg c0.toArray∧L'=[.box bx1 k0 90,.stk u1 9 1 x1]∧rep M' c0 r.1∧rep M' k0 r.2.1∧skr M' u1 x1 r.2.2∧sl k0 1993 1=[u1])):=by
 refine Zi Try.func52 rfl 117 rfl rfl (by kernel_rfl) fun T hT => ?_
 have hT_0:T 0 = .pointer (some ⟨bx1,0,none⟩):=hT 0
 have hT_1:T 1 = .agg cx4.toArray:=hT 1
 clear hT
 have hE:=Qg w.heap.size (lentX [.box bx1 cx1 90,.stk ux1_6 9 1 xsx1_6]) M
 rw [clPowerD] at hz
 refine Qh <|Qi ?_
 refine Qt (Ys (v := .agg cx4.toArray) (cs:=cx4) hT_1 rfl hS ?_)
 intro b6 w5 hb6 hS
 refine Qt (Zf tz40 hS ?_)
 intro b8 w7 hb8 hS
 have zb8:rep M (Zr.zc GReply) (Zr.zd:GReply):=Zr.zr
 refine Qf (Qa ?_)
 refine Qh <|Qi <|Qc (Qp Kr rfl) <|Qc (Ql (.int .i64 x4.n) Z9 rfl (hS.bvB 1 rfl) (V4 (rr hcx4))) <|Qc (Qj (.int .i64 x4.n) rfl) ?_
 refine Qf (Qa ?_)
 refine Q0 (fun T' w' => ∃ M10 cs12 d13 cs14 d15 v16 xs17 l18,Mm.ext w.heap.size (lentX [.box bx1 cx1 90,.stk ux1_6 9 1 xsx1_6]) M M10∧St w (lentX [.box bx1 cx1 90,.stk ux1_6 9 1 xsx1_6]) M10 [.box b8 cs12 40,.box b6 cx4 43,.box bx1 cs14 90,.stk v16 9 1 xs17] w'∧rep M10 cs12 d13∧rep M10 cs14 d15∧skr M10 v16 xs17 l18∧sl cs14 (0+1993) 1=[v16]∧T' 4 = .pointer (some ⟨b8,0,none⟩)∧clPower_j1 d13 d15 l18=some r) ?_ ?_
 have hF27:=Qg w.heap.size (lentX [.box bx1 cx1 90,.stk ux1_6 9 1 xsx1_6]) M
 refine Qy ?_
 refine Q0 (fun T' w' => ∃ M29 c31,Mm.ext w.heap.size (lentX [.box bx1 cx1 90,.stk ux1_6 9 1 xsx1_6]) M M29∧St w (lentX [.box bx1 cx1 90,.stk ux1_6 9 1 xsx1_6]) M29 [.box b8 (Zr.zc GReply) 40,.box b6 cx4 43,.box bx1 cx1 90,.stk ux1_6 9 1 xsx1_6] w'∧T' 0 = .pointer (some ⟨bx1,0,none⟩)∧T' 3 = .pointer (some ⟨b6,0,none⟩)∧T' 4 = .pointer (some ⟨b8,0,none⟩)∧T' 5 = .int .i64 x4.n∧T' 49 = .bool c31∧clPower_j2 fu x1 l3 x4 c31=some r) ?_ ?_
 have hF166:=Qg w.heap.size (lentX [.box bx1 cx1 90,.stk ux1_6 9 1 xsx1_6]) M
 refine Qi <|Qc (Qe (.int .i64 x4.n) rfl) <|Qc (Zo rfl rfl) <|Qc (Qe (.bool (decide (x4.n<0))) rfl) ?_
 rcases ic hz with ⟨hc167,hz⟩ | ⟨hc167,hz⟩<;>rw [hc167]
 refine Q3 19 rfl ?_
 refine Qf (Qa ?_)
 exact ⟨M,true,hF166,hS,hT_0,rfl,rfl,rfl,rfl,hz⟩
 refine Qk rfl rfl (Qe (.int .i64 x4.n) rfl) <|Qk rfl rfl (Vb rfl rfl) <|Q3 2 rfl ?_
 rcases ic hz with ⟨hc168,hz⟩ | ⟨hc168,hz⟩<;>rw [hc168]
 refine Q3 15 rfl ?_
 refine Qf (Qa ?_)
 exact ⟨M,true,hF166,hS,hT_0,rfl,rfl,rfl,rfl,hz⟩
 refine Qk rfl rfl (Qp fa43_0 rfl) <|Qk rfl rfl (Ql (.int .i64 x4.kind) Z9 rfl (hS.bvB 1 rfl) (Jk (rr hcx4))) <|Qk rfl rfl (Yd rfl rfl) <|Qk rfl rfl (Qe (.bool (x4.kind==7)) rfl) ?_
 rcases ic hz with ⟨hc169,hz⟩ | ⟨hc169,hz⟩<;>rw [hc169]
 refine Qk rfl rfl (Qp fa43_2 rfl) <|Qk rfl rfl (Ql (.int .i64 x4.m) Z9 rfl (hS.bvB 1 rfl) (GAct.p2 (rr hcx4))) <|Qk rfl rfl (Zo rfl rfl) <|Qk rfl rfl (Qe (.bool (decide (x4.m<0))) rfl) ?_
 rcases ic hz with ⟨hc170,hz⟩ | ⟨hc170,hz⟩<;>rw [hc170]
 refine Q3 7 rfl ?_
 refine Qf (Qa ?_)
 exact ⟨M,true,hF166,hS,hT_0,rfl,rfl,rfl,rfl,hz⟩
 refine Qk rfl rfl (Qp fa43_2 rfl) <|Qk rfl rfl (Ql (.int .i64 x4.m) Z9 rfl (hS.bvB 1 rfl) (GAct.p2 (rr hcx4))) <|Qk rfl rfl (Y4 rfl rfl) <|Q3 4 rfl ?_
 refine Qf (Qa ?_)
 exact ⟨M,(decide (x4.m>400)),hF166,hS,hT_0,rfl,rfl,rfl,rfl,hz⟩
 refine Q3 11 rfl ?_
 refine Qf (Qa ?_)
 exact ⟨M,false,hF166,hS,hT_0,rfl,rfl,rfl,rfl,hz⟩
 rintro T30 w28 ⟨M29,c31,hx32,hS,hT30_0,hT30_3,hT30_4,hT30_5,hT30_49,hz⟩
 replace hcx1:=Rep.mono hx32.1 hcx1
 replace hkx1_6:=Zv hx32.1 hkx1_6
 replace hcx4:=Rep.mono hx32.1 hcx4
 replace zb8:=Rep.mono hx32.1 zb8
 replace hE:=Qd hE hx32
 replace hF27:=Qd hF27 hx32
 rw [clPower_j2] at hz
 refine Qs hT30_49 (fun hc33 => ?_) (fun hc33 => ?_)
 replace hz:=Qn hz hc33
 refine Qh <|Qi ?_
 have k34_0:=V2 (Zr.zr:rep M29 (Zr.zc GReply) (Zr.zd:GReply)) (ri 2:rep M29 _ _)
 obtain ⟨d35,hd34,hz⟩:=Qb hz
 obtain ⟨cs34,hf34,ha34⟩ : ∃ cs,fillZ (([(0,1),(1,1),(2,1)]:List (Nat × Nat))[·]?) (Zr.zc GReply) [(0,.int .i64 2)]=some cs∧rep M29 cs d35:=⟨_,(Zd (Zr.zr:rep M29 (Zr.zc GReply) (Zr.zd:GReply)) rfl rfl (Rep.len (ri 2:rep M29 _ _)) (by decide) Ya),Yb (x:=({ code:=2,n:=Zr.zd,values:=Zr.zd }:GReply)) k34_0 hd34⟩
 refine Qc (Zy [(0,.int .i64 2)] tb40 (Yr rfl Vc) hf34) ?_
 obtain ⟨d38,hd37,hz⟩:=Qb hz
 refine Qt (Q7 0 3 hS rfl zb8 hT30_4 rfl ha34 rfl rfl (Lf (rr zb8) ha34) hd37 ?_)
 intro cs37 w36 hb37 ha37 hs37 hS
 refine Qf (Qa ?_)
 cases hz
 exact Q4 (Zc (Qq (Jr (j:=0) rfl hT30_4 (by rw [Rep.len hb37];exact Kq) hS rfl ⟨_,M29,_,rfl,hE,(hS.sel (H':=[.box bx1 cx1 90,.stk ux1_6 9 1 xsx1_6]) [2,3] (by decide) rfl),cs37,cx1,ux1_6,xsx1_6,rfl,rfl,hb37,hcx1,hkx1_6,hpx1_6⟩)))
 replace hz:=Qo hz hc33
 refine Qh <|W_drawq Z8 (by kernel_rfl) hS <|Yl (Qe (.pointer (some ⟨bx1,0,none⟩)) hT30_0) <|Yl (Qe (.int .i64 x4.n) hT30_5) <|Yl (Q6 rfl) <|Yl (Qp fa90_2 rfl) ?_
 obtain ⟨u39,hx40,hz⟩:=Qb hz
 obtain ⟨hx40a,hx40b⟩:=Qw hx40
 refine Yl (Zb Jt rfl rfl hx40a hx40b) ?_
 obtain ⟨x41,hx42,hz⟩:=Qb hz
 refine Yl (Ql (.bool x41) Jm rfl (bvBS (j:=2) rfl) (vp (k:=1) rfl rfl (Y5 (rr hcx1)) hx42)) <|Yl (Qp fa43_0 hT30_3) <|Yl (Ql (.int .i64 x4.kind) Z9 rfl (bvBS (j:=1) rfl) (Jk (rr hcx4))) <|Yl (Yd rfl rfl) <|Yl (Y_neB rfl rfl K5) <|Yl (Qj (.bool (!(x41==(x4.kind==8)))) rfl) <|WQ_nil ?_
 intro w43 hS
 refine (Qa ?_)
 refine Qs rfl (fun hc44 => ?_) (fun hc44 => ?_)
 replace hz:=Qn hz hc44
 refine Qh <|Qi ?_
 have k45_0:=V2 (Zr.zr:rep M29 (Zr.zc GReply) (Zr.zd:GReply)) (ri 6:rep M29 _ _)
 obtain ⟨d46,hd45,hz⟩:=Qb hz
 obtain ⟨cs45,hf45,ha45⟩ : ∃ cs,fillZ (([(0,1),(1,1),(2,1)]:List (Nat × Nat))[·]?) (Zr.zc GReply) [(0,.int .i64 6)]=some cs∧rep M29 cs d46:=⟨_,(Zd (Zr.zr:rep M29 (Zr.zc GReply) (Zr.zd:GReply)) rfl rfl (Rep.len (ri 6:rep M29 _ _)) (by decide) Ya),Yb (x:=({ code:=6,n:=Zr.zd,values:=Zr.zd }:GReply)) k45_0 hd45⟩
 refine Qc (Zy [(0,.int .i64 6)] tb40 (Yr rfl Vc) hf45) ?_
 obtain ⟨d49,hd48,hz⟩:=Qb hz
 refine Qt (Q7 0 3 hS rfl zb8 hT30_4 rfl ha45 rfl rfl (Lf (rr zb8) ha45) hd48 ?_)
 intro cs48 w47 hb48 ha48 hs48 hS
 refine Qf (Qa ?_)
 cases hz
 exact Q4 (Zc (Qq (Jr (j:=0) rfl hT30_4 (by rw [Rep.len hb48];exact Kq) hS rfl ⟨_,M29,_,rfl,hE,(hS.sel (H':=[.box bx1 cx1 90,.stk ux1_6 9 1 xsx1_6]) [2,3] (by decide) rfl),cs48,cx1,ux1_6,xsx1_6,rfl,rfl,hb48,hcx1,hkx1_6,hpx1_6⟩)))
 replace hz:=Qo hz hc44
 refine Qh <|Qi <|Qc (Qp fa43_0 hT30_3) <|Qc (Ql (.int .i64 x4.kind) Z9 rfl (hS.bvB 1 rfl) (Jk (rr hcx4))) <|Qc (Yd rfl rfl) <|Qc (Qj (.bool (x4.kind==7)) rfl) ?_
 refine Qf (Qa ?_)
 refine Qs rfl (fun hc50 => ?_) (fun hc50 => ?_)
 replace hz:=Qn hz hc50
 refine Yq [.box b6 cx4 43] [] Z8 hS fun w51 hS hG52 hR53=>wy 0 rfl (Qe (.pointer (some ⟨bx1,0,none⟩)) hT30_0) (fun _=>hR53) <|wy 1 rfl (Qe (.int .i64 x4.n) hT30_5) (fun _=>hR53) <|wy 2 rfl (Qp fa43_2 hT30_3) (fun _=>hR53) <|Y0 3 rfl (Ql (.int .i64 x4.m) Z9 rfl (Yo 0 rfl) (GAct.p2 (rr hcx4))) hR53 <|wy 4 rfl (Zz rfl rfl) (fun _=>hR53) <|wy 5 rfl (Q6 rfl) (fun _=>hR53) <|wy 6 rfl (Qp fa90_3 rfl) (fun _=>hR53) ?_
 obtain ⟨u54,hx55,hz⟩:=Qb hz
 obtain ⟨hx55a,hx55b⟩:=Qw hx55
 refine wy 7 rfl (Zb ia55 rfl rfl hx55a hx55b) (fun _=>hR53) ?_
 obtain ⟨x58,hx59,hz⟩:=Qb hz
 obtain ⟨a60,hx61,hz⟩:=Qb hz
 obtain ⟨d62,hd57,hz⟩:=Qb hz
 have hq64:=(Zm hx59)
 refine w1 8 rfl (Q7 2 1 hS rfl hcx1 rfl rfl (ri (IntKind.wrap .i64 (x4.m+1)):rep M29 _ _) rfl rfl (GCluster.u3 (rr hcx1) (vu (k:=1) rfl rfl (Ve (rr hcx1)) (Lf (vp (k:=1) rfl rfl (Ve (rr hcx1)) hx59) (ri (IntKind.wrap .i64 (x4.m+1)):rep M29 _ _)) hx61)) hd57 ?_)
 intro cs57 w56 hb57 ha57 hs57 hS
 have hp63:=(ha57 (by omega)).trans hpx1_6
 refine Yp hS hG52 fun hR65 => ?_
 refine wd (Q8 ?_)
 refine (Qa ?_)
 exact ⟨M29,(Zr.zc GReply),(Zr.zd:GReply),cs57,d62,ux1_6,xsx1_6,l3,hF27,hS,zb8,hb57,hkx1_6,hp63,hT30_4,hz⟩
 replace hz:=Qo hz hc50
 refine Qh <|Qi <|Qc (Qp fa43_0 hT30_3) <|Qc (Ql (.int .i64 x4.kind) Z9 rfl (hS.bvB 1 rfl) (Jk (rr hcx4))) <|Qc (Yd rfl rfl) <|Qc (Qj (.bool (x4.kind==6)) rfl) ?_
 refine Qf (Qa ?_)
 refine Qs rfl (fun hc66 => ?_) (fun hc66 => ?_)
 replace hz:=Qn hz hc66
 refine Yq [] [] Z8 hS fun w67 hS hG68 hR69=>wy 0 rfl (Qe (.pointer (some ⟨bx1,0,none⟩)) hT30_0) (fun _=>hR69) <|wy 1 rfl (Qe (.int .i64 x4.n) hT30_5) (fun _=>hR69) <|wy 2 rfl (Qe (.pointer (some ⟨bx1,0,none⟩)) hT30_0) (fun _=>hR69) <|wy 3 rfl (Qe (.int .i64 x4.n) hT30_5) (fun _=>hR69) <|wy 4 rfl (Qe (.pointer (some ⟨bx1,0,none⟩)) hT30_0) (fun _=>hR69) <|wy 5 rfl (Qe (.int .i64 x4.n) hT30_5) (fun _=>hR69) ?_
 obtain ⟨d71,hd70,hz⟩:=Qb hz
 obtain ⟨cs70,hf70,ha70⟩ : ∃ cs,fillZ (([(0,192),(192,1),(193,8)]:List (Nat × Nat))[·]?) (Zr.zc GNode) []=some cs∧rep M29 cs d71:=⟨_,Ya,Yb (x:=({ entries:=Zr.zd,order:=Zr.zd,values:=Zr.zd }:GNode)) (Zr.zr:rep M29 (Zr.zc GNode) (Zr.zd:GNode)) hd70⟩
 refine wy 6 rfl (Zy [] tb34 Vc hf70) (fun _=>hR69) <|wy 7 rfl (Q6 rfl) (fun _=>hR69) <|wy 8 rfl (Qp fa90_0 rfl) (fun _=>hR69) ?_
 obtain ⟨u72,hx73,hz⟩:=Qb hz
 obtain ⟨hx73a,hx73b⟩:=Qw hx73
 refine wy 9 rfl (Zb ia86 rfl rfl hx73a hx73b) (fun _=>hR69) <|wy 11 rfl (Q6 rfl) (fun _=>hR69) <|wy 12 rfl (Qp fa90_2 rfl) (fun _=>hR69) <|wy 15 rfl (Q6 rfl) (fun _=>hR69) <|wy 16 rfl (Qp fa90_3 rfl) (fun _=>hR69) ?_
 obtain ⟨x76,hx77,hz⟩:=Qb hz
 obtain ⟨a78,hx79,hz⟩:=Qb hz
 obtain ⟨d80,hd75,hz⟩:=Qb hz
 have hq82:=(Zm hx77)
 refine w1 10 rfl (Q7 2 201 hS rfl hcx1 rfl rfl ha70 rfl rfl (Je (rr hcx1) (vu (k:=201) rfl rfl (Yy (rr hcx1)) (Lf (vp (k:=201) rfl rfl (Yy (rr hcx1)) hx77) ha70) hx79)) hd75 ?_)
 intro cs75 w74 hb75 ha75 hs75 hS
 have hp81:=(ha75 (by omega)).trans hpx1_6
 refine Yp hS hG68 fun hR83 => ?_
 obtain ⟨u84,hx85,hz⟩:=Qb hz
 obtain ⟨hx85a,hx85b⟩:=Qw hx85
 refine wy 13 rfl (Zb Jt rfl rfl hx85a hx85b) (fun _=>hR83) ?_
 obtain ⟨x88,hx89,hz⟩:=Qb hz
 obtain ⟨a90,hx91,hz⟩:=Qb hz
 obtain ⟨d92,hd87,hz⟩:=Qb hz
 have hq94:=(Zm hx89)
 refine w1 14 rfl (Q7 2 1 hS rfl hb75 rfl rfl (rb true:rep M29 _ _) rfl rfl (GCluster.u2 (rr hb75) (vu (k:=1) rfl rfl (Y5 (rr hb75)) (Lf (vp (k:=1) rfl rfl (Y5 (rr hb75)) hx89) (rb true:rep M29 _ _)) hx91)) hd87 ?_)
 intro cs87 w86 hb87 ha87 hs87 hS
 have hp93:=(ha87 (by omega)).trans hp81
 refine Yp hS hG68 fun hR95 => ?_
 obtain ⟨u96,hx97,hz⟩:=Qb hz
 obtain ⟨hx97a,hx97b⟩:=Qw hx97
 refine wy 17 rfl (Zb ia55 rfl rfl hx97a hx97b) (fun _=>hR95) ?_
 obtain ⟨x100,hx101,hz⟩:=Qb hz
 obtain ⟨a102,hx103,hz⟩:=Qb hz
 obtain ⟨d104,hd99,hz⟩:=Qb hz
 have hq106:=(Zm hx101)
 refine w1 18 rfl (Q7 2 1 hS rfl hb87 rfl rfl (ri 0:rep M29 _ _) rfl rfl (GCluster.u3 (rr hb87) (vu (k:=1) rfl rfl (Ve (rr hb87)) (Lf (vp (k:=1) rfl rfl (Ve (rr hb87)) hx101) (ri 0:rep M29 _ _)) hx103)) hd99 ?_)
 intro cs99 w98 hb99 ha99 hs99 hS
 have hp105:=(ha99 (by omega)).trans hp93
 refine Yp hS hG68 fun hR107 => ?_
 refine wd (Q8 ?_)
 refine (Qa ?_)
 exact ⟨M29,(Zr.zc GReply),(Zr.zd:GReply),cs99,d104,ux1_6,xsx1_6,l3,hF27,hS,zb8,hb99,hkx1_6,hp105,hT30_4,hz⟩
 replace hz:=Qo hz hc66
 refine Qh <|Qi <|Qc (Qe (.pointer (some ⟨bx1,0,none⟩)) hT30_0) <|Qc (Qe (.int .i64 x4.n) hT30_5) <|Qc (Q6 rfl) <|Qc (Qp fa90_1 rfl) ?_
 obtain ⟨u108,hx109,hz⟩:=Qb hz
 obtain ⟨hx109a,hx109b⟩:=Qw hx109
 refine Qc (Zb ia87 rfl rfl hx109a hx109b) ?_
 obtain ⟨x110,hx111,hz⟩:=Qb hz
 refine Qc (Ql (.string x110) ts9 rfl (hS.bvB 2 rfl) (vp (k:=1) rfl rfl (Yz (rr hcx1)) hx111).1) ?_
 obtain ⟨r114,hr113,hz⟩:=Qb hz
 refine Qt (Yt (vs:=[.string x110]) (rv:=(fun M' u => ∃ v0,u = .tuple #[v0,.int .i64 r114.2]∧repL M' v0 r114.1)) cb73 (Zs rfl) hS (bkRead_ok hS.agree hr113) ?_)
 intro u113 M113 w112 hx113 hu113 hS
 obtain ⟨v113_0,hq113,f113_0⟩:=hu113
 subst hq113
 replace hcx1:=Rep.mono hx113.1 hcx1
 refine Qc (Qe (.tuple #[v113_0,.int .i64 r114.2]) rfl) <|Qc (Za (v:=v113_0) rfl rfl) <|Qc (Za (v := .int .i64 r114.2) rfl rfl) <|Q3 2 rfl ?_
 refine Qf (Qa ?_)
 refine Qh <|Yq [.box bx1 cx1 90] [13] Z8 hS fun w115 hS hG116 hR117=>wy 0 rfl (Qe (.pointer (some ⟨bx1,0,none⟩)) hT30_0) (fun _=>hR117) <|wy 1 rfl (Qe (.int .i64 x4.n) hT30_5) (fun _=>hR117) <|wy 2 rfl (Qe (.pointer (some ⟨bx1,0,none⟩)) hT30_0) (fun _=>hR117) <|wy 3 rfl (Qe (.int .i64 x4.n) hT30_5) (fun _=>hR117) <|wy 4 rfl (Q6 rfl) (fun _=>hR117) <|wy 5 rfl (Qp fa90_1 rfl) (fun _=>hR117) ?_
 obtain ⟨u118,hx119,hz⟩:=Qb hz
 obtain ⟨hx119a,hx119b⟩:=Qw hx119
 refine wy 6 rfl (Zb ia87 rfl rfl hx119a hx119b) (fun _=>hR117) ?_
 obtain ⟨x120,hx121,hz⟩:=Qb hz
 refine Y0 7 rfl (Ql (.string x120) ts9 rfl (Yo 0 rfl) (vp (k:=1) rfl rfl (Yz (rr hcx1)) hx121).1) hR117 <|wy 8 rfl (Qe (.int .i64 r114.2) rfl) (fun _=>hR117) ?_
 obtain ⟨s123,hx122,hz⟩:=Qb hz
 obtain ⟨⟨pp122,qq122⟩,hc122,hx122⟩:=Option.map_eq_some_iff.1 hx122
 refine wy 9 rfl ((hx122 ▸ Y_cutS (l:=none) (h:=(some r114.2)) Ze rfl evn (evs rfl) hc122)) (fun _=>hR117) <|wy 10 rfl (Q6 rfl) (fun _=>hR117) <|wy 11 rfl (Qp fa90_1 rfl) (fun _=>hR117) ?_
 obtain ⟨u124,hx125,hz⟩:=Qb hz
 obtain ⟨hx125a,hx125b⟩:=Qw hx125
 refine wy 12 rfl (Zb ia87 rfl rfl hx125a hx125b) (fun _=>hR117) ?_
 obtain ⟨_,hx127,hz⟩:=Qb hz
 have hx127:=Kf hx127
 obtain ⟨x129,hx130,hz⟩:=Qb hz
 obtain ⟨a131,hx132,hz⟩:=Qb hz
 obtain ⟨d133,hd128,hz⟩:=Qb hz
 have hq135:=(Zm hx130)
 refine w1 13 rfl (Q7 2 1 hS rfl hcx1 rfl rfl (Vz hx127:rep M113 [Value.string s123] s123) rfl rfl (GCluster.u1 (rr hcx1) (vu (k:=1) rfl rfl (Yz (rr hcx1)) (Lf (vp (k:=1) rfl rfl (Yz (rr hcx1)) hx130) (Vz hx127:rep M113 [Value.string s123] s123)) hx132)) hd128 ?_)
 intro cs128 w126 hb128 ha128 hs128 hS
 have hp134:=(ha128 (by omega)).trans hpx1_6
 refine ⟨nB,?_⟩
 refine wd (Qa ?_)
 refine Qh <|Yq [] [] Z8 hS fun w136 hS hG137 hR138=>wy 0 rfl (Qe (.pointer (some ⟨bx1,0,none⟩)) hT30_0) (fun _=>hR138) <|wy 1 rfl (Qe (.int .i64 x4.n) hT30_5) (fun _=>hR138) <|wy 2 rfl (Qe (.int .i64 x4.n) hT30_5) (fun _=>hR138) <|wy 3 rfl (Qe (v113_0) rfl) (fun _=>hR138) <|wy 8 rfl (Q6 rfl) (fun _=>hR138) <|wy 9 rfl (Qp fa90_0 rfl) (fun _=>hR138) ?_
 obtain ⟨r141,hr140,hz⟩:=Qb hz
 refine w1 4 rfl (Yt (vs:=[.int .i64 x4.n,v113_0]) (rv:=(fun M' u => ∃ c0,u = .tuple #[.agg c0.toArray,.int .i64 r141.2]∧rep M' c0 r141.1)) cb74 (Z7 rfl rfl) hS (nodeReplay_ok hS.agree f113_0 hr140) ?_)
 intro u140 M140 w139 hx140 hu140 hS
 obtain ⟨c140_0,hq140,f140_0⟩:=hu140
 subst hq140
 replace hkx1_6:=Zv (hx113.1.trans hx140.1) hkx1_6
 replace zb8:=Rep.mono (hx113.1.trans hx140.1) zb8
 replace hb128:=Rep.mono hx140.1 hb128
 replace hF27:=Qd hF27 (hx113.trans hx140)
 replace hG137:=Qd hG137 hx140
 refine Yp hS hG137 fun hR142=>wy 5 rfl (Qe (.tuple #[.agg c140_0.toArray,.int .i64 r141.2]) rfl) (fun _=>hR142) <|wy 6 rfl (Za (v := .agg c140_0.toArray) rfl rfl) (fun _=>hR142) <|wy 7 rfl (Za (v := .int .i64 r141.2) rfl rfl) (fun _=>hR142) ?_
 obtain ⟨u143,hx144,hz⟩:=Qb hz
 obtain ⟨hx144a,hx144b⟩:=Qw hx144
 refine wy 10 rfl (Zb ia86 rfl rfl hx144a hx144b) (fun _=>hR142) ?_
 obtain ⟨x147,hx148,hz⟩:=Qb hz
 obtain ⟨a149,hx150,hz⟩:=Qb hz
 obtain ⟨d151,hd146,hz⟩:=Qb hz
 have hq153:=(Zm hx148)
 refine w1 11 rfl (Q7 2 201 hS rfl hb128 rfl rfl f140_0 rfl rfl (Je (rr hb128) (vu (k:=201) rfl rfl (Yy (rr hb128)) (Lf (vp (k:=201) rfl rfl (Yy (rr hb128)) hx148) f140_0) hx150)) hd146 ?_)
 intro cs146 w145 hb146 ha146 hs146 hS
 have hp152:=(ha146 (by omega)).trans hp134
 refine Yp hS hG137 fun hR154 => ?_
 refine wd (Qa ?_)
 refine Qi <|Qc (Qe (.pointer (some ⟨bx1,0,none⟩)) hT30_0) <|Qc (Qe (.int .i64 x4.n) hT30_5) <|Qc (Q6 rfl) <|Qc (Qp fa90_2 rfl) ?_
 obtain ⟨u155,hx156,hz⟩:=Qb hz
 obtain ⟨hx156a,hx156b⟩:=Qw hx156
 refine Qc (Zb Jt rfl rfl hx156a hx156b) ?_
 obtain ⟨x159,hx160,hz⟩:=Qb hz
 obtain ⟨a161,hx162,hz⟩:=Qb hz
 obtain ⟨d163,hd158,hz⟩:=Qb hz
 have hq165:=(Zm hx160)
 refine Qt (Q7 2 1 hS rfl hb146 rfl rfl (rb false:rep M140 _ _) rfl rfl (GCluster.u2 (rr hb146) (vu (k:=1) rfl rfl (Y5 (rr hb146)) (Lf (vp (k:=1) rfl rfl (Y5 (rr hb146)) hx160) (rb false:rep M140 _ _)) hx162)) hd158 ?_)
 intro cs158 w157 hb158 ha158 hs158 hS
 have hp164:=(ha158 (by omega)).trans hp152
 refine Qf (Q8 ?_)
 refine (Qa ?_)
 exact ⟨M140,(Zr.zc GReply),(Zr.zd:GReply),cs158,d163,ux1_6,xsx1_6,l3,hF27,hS,zb8,hb158,hkx1_6,hp164,hT30_4,hz⟩
 rintro T11 w9 ⟨M10,cs12,d13,cs14,d15,v16,xs17,l18,hx21,hS,hb12,hb14,hk19,hp20,hT11_4,hz⟩
 replace hE:=Qd hE hx21
 rw [clPower_j1] at hz
 refine Qh <|Qi ?_
 obtain ⟨d23,hd22,hz⟩:=Qb hz
 obtain ⟨cs22,hf22,ha22⟩ : ∃ cs,fillZ (([(0,1),(1,1),(2,1)]:List (Nat × Nat))[·]?) (Zr.zc GReply) []=some cs∧rep M10 cs d23:=⟨_,Ya,Yb (x:=({ code:=Zr.zd,n:=Zr.zd,values:=Zr.zd }:GReply)) (Zr.zr:rep M10 (Zr.zc GReply) (Zr.zd:GReply)) hd22⟩
 refine Qc (Zy [] tb40 Vc hf22) ?_
 obtain ⟨d26,hd25,hz⟩:=Qb hz
 refine Qt (Q7 0 3 hS rfl hb12 hT11_4 rfl ha22 rfl rfl (Lf (rr hb12) ha22) hd25 ?_)
 intro cs25 w24 hb25 ha25 hs25 hS
 refine Qf (Qa ?_)
 cases hz
 exact Q4 (Jr (j:=0) rfl hT11_4 (by rw [Rep.len hb25];exact Kq) hS rfl ⟨_,M10,_,rfl,hE,(hS.sel (H':=[.box bx1 cs14 90,.stk v16 9 1 xs17]) [2,3] (by decide) rfl),cs25,cs14,v16,xs17,rfl,rfl,hb25,hb14,hk19,hp20⟩)
def clDo_j1 (fu:Nat) (d25:GReply) (d27:GCluster) (l30:List ByteArray):Option (GReply × GCluster × (List ByteArray)) :=
 (clNoD fu 3).bind fun r37 =>
 (some r37).bind fun d40 =>
 some (d40,d27,l30)
def clDo_j3 (fu:Nat) (l3:List ByteArray) (x4:GAct) (d19:GCluster) (d68:GReply):Option (GReply × GCluster × (List ByteArray)) :=
 (inR x4.n 32).bind fun _ =>
 (idxV d19.cases x4.n).bind fun x75 =>
 (againD fu x75 x4.n).bind fun r80 =>
 (clSendD fu d19 l3 r80).bind fun r84 =>
 (clToldD fu r84.1 x4.n).bind fun r87 =>
 (some r87).bind fun d90 =>
 some (d90,r84.1,r84.2)
def clDo_j4 (fu:Nat) (l3:List ByteArray) (x4:GAct) (d19:GCluster) (c95:Bool):Option (GReply × GCluster × (List ByteArray)) :=
 (bif c95 then
 (clNoD fu 4).bind fun r101 =>
 (some r101).bind fun d104 =>
 some (d104,d19,l3)
 else
 clDo_j3 fu l3 x4 d19 (Zr.zd:GReply))
def clDo_j5 (fu:Nat) (l3:List ByteArray) (x4:GAct) (d19:GCluster) (c113:Bool):Option (GReply × GCluster × (List ByteArray)) :=
 (bif c113 then
 (clPowerD fu d19 l3 x4).bind fun r119 =>
 (some r119.1).bind fun d122 =>
 some (d122,r119.2.1,r119.2.2)
 else
 clDo_j1 fu (Zr.zd:GReply) d19 l3)
def clDo_j2 (fu:Nat) (l3:List ByteArray) (x4:GAct) (d19:GCluster) (c53:Bool):Option (GReply × GCluster × (List ByteArray)) :=
 (bif c53 then
 (clFrameD fu d19 l3 x4).bind fun r59 =>
 (some r59.1).bind fun d62 =>
 some (d62,r59.2.1,r59.2.2)
 else
 (bif x4.kind==5 then
 (bif decide (x4.n<0) then
 clDo_j4 fu l3 x4 d19 true
 else
 clDo_j4 fu l3 x4 d19 (decide (x4.n≥d19.begun)))
 else
 (bif x4.kind==6 then
 clDo_j5 fu l3 x4 d19 (x4.kind==6)
 else
 (bif x4.kind==7 then
 clDo_j5 fu l3 x4 d19 (x4.kind==7)
 else
 clDo_j5 fu l3 x4 d19 (x4.kind==8)))))
def clDoD (fu:Nat) (x1:GCluster) (l3:List ByteArray) (x4:GAct):Option (GReply × GCluster × (List ByteArray)) :=
 (bif decide (x1.acts≥400) then
 (clNoD fu 5).bind fun r13 =>
 (some r13).bind fun d16 =>
 some (d16,x1,l3)
 else
 (some ({ x1 with acts:=IntKind.wrap .i64 (x1.acts+1) }:GCluster)).bind fun d19 =>
 (bif x4.kind==1 then
 (clBeginD fu d19 l3 x4.ops).bind fun r46 =>
 (some r46.1).bind fun d49 =>
 some (d49,r46.2.1,r46.2.2)
 else
 (bif x4.kind==2 then
 clDo_j2 fu l3 x4 d19 (x4.kind==2)
 else
 (bif x4.kind==3 then
 clDo_j2 fu l3 x4 d19 (x4.kind==3)
 else
 clDo_j2 fu l3 x4 d19 (x4.kind==4)))))
set_option maxRecDepth 100000 in
set_option maxHeartbeats 4000000 in
theorem clDo_ok {M:Mm} {w:World} {bx1:Nat} {cx1:List Value} {ux1_6:Value} {xsx1_6:List Value} {cx4:List Value} {x1:GCluster} {l3:List ByteArray} {x4:GAct} {fu:Nat} {r:GReply × GCluster × (List ByteArray)} (hS:St w (lentX [.box bx1 cx1 90,.stk ux1_6 9 1 xsx1_6]) M [.box bx1 cx1 90,.stk ux1_6 9 1 xsx1_6] w) (hcx1:rep M cx1 x1) (hkx1_6:skr M ux1_6 xsx1_6 l3) (hpx1_6:sl cx1 1993 1=[ux1_6]) (hcx4:rep M cx4 x4) (hz:clDoD fu x1 l3 x4=some r) :
    Calls Try.prog 19 #[.pointer (some ⟨bx1,0,none⟩),.agg cx4.toArray] w (GivesL M w [.box bx1 cx1 90,.stk ux1_6 9 1 xsx1_6] (fun M' u L' => ∃ c0 k0 u1 x1,u = .agg c0.toArray∧L'=[.box bx1 k0 90,.stk u1 9 1 x1]∧rep M' c0 r.1∧rep M' k0 r.2.1∧skr M' u1 x1 r.2.2∧sl k0 1993 1=[u1])):=by
 refine Zi Try.func19 rfl 82 rfl rfl (by kernel_rfl) fun T hT => ?_
 have hT_0:T 0 = .pointer (some ⟨bx1,0,none⟩):=hT 0
 have hT_1:T 1 = .agg cx4.toArray:=hT 1
 clear hT
 have hE:=Qg w.heap.size (lentX [.box bx1 cx1 90,.stk ux1_6 9 1 xsx1_6]) M
 rw [clDoD] at hz
 refine Qh <|Qi ?_
 refine Qt (Ys (v := .agg cx4.toArray) (cs:=cx4) hT_1 rfl hS ?_)
 intro b6 w5 hb6 hS
 refine Qt (Zf tz40 hS ?_)
 intro b8 w7 hb8 hS
 have zb8:rep M (Zr.zc GReply) (Zr.zd:GReply):=Zr.zr
 refine Qf (Qa ?_)
 refine Qh <|Qi <|Qc (Qj (evT (fun _=>undef) (.func 46)) rfl) ?_
 refine Qf (Qa ?_)
 refine Qh <|Qy <|Qh <|Qi <|Qc (Qe (.pointer (some ⟨bx1,0,none⟩)) hT_0) <|Qc (Y_eqNil rfl rfl Vm) <|Qc (Qj (.bool false) rfl) ?_
 refine Qf (Qa ?_)
 refine W_cond_f rfl <|Qh <|Qi <|Qc (Qe (.pointer (some ⟨bx1,0,none⟩)) hT_0) <|Qc (Q6 rfl) <|Qc (Qp fa90_7 rfl) <|Qc (Ql (.int .i64 x1.acts) Z9 rfl (hS.bvB 2 rfl) (GCluster.p7 (rr hcx1))) <|Qc (Vb rfl rfl) <|Qc (Qj (.bool (decide (x1.acts≥400))) rfl) ?_
 refine Qf (Qa ?_)
 refine Qs rfl (fun hc9 => ?_) (fun hc9 => ?_)
 replace hz:=Qn hz hc9
 refine Qh <|Qi <|Qc (Qe (evT (fun _=>undef) (.func 46)) rfl) ?_
 obtain ⟨r13,hr12,hz⟩:=Qb hz
 refine Qt (OW_fn rfl (Yt (vs:=[.int .i64 5]) (rv:=(fun M' u => ∃ cs,u = .agg cs.toArray∧rep M' cs r13)) cb46 (Zs rfl) hS (clNo_ok hS.agree hr12)) ?_)
 intro u12 M12 w11 hx12 hu12 hS
 obtain ⟨c12,hq12,f12⟩:=hu12
 subst hq12
 replace hcx1:=Rep.mono hx12.1 hcx1
 replace hkx1_6:=Zv hx12.1 hkx1_6
 replace zb8:=Rep.mono hx12.1 zb8
 replace hE:=Qd hE hx12
 obtain ⟨d16,hd15,hz⟩:=Qb hz
 refine Qt (Q7 0 3 hS rfl zb8 rfl rfl f12 rfl rfl (Lf (rr zb8) f12) hd15 ?_)
 intro cs15 w14 hb15 ha15 hs15 hS
 refine Qf (Qa ?_)
 cases hz
 exact Q4 (Zc (Qq (Jr (j:=0) rfl rfl (by rw [Rep.len hb15];exact Kq) hS rfl ⟨_,M12,_,rfl,hE,(hS.sel (H':=[.box bx1 cx1 90,.stk ux1_6 9 1 xsx1_6]) [2,3] (by decide) rfl),cs15,cx1,ux1_6,xsx1_6,rfl,rfl,hb15,hcx1,hkx1_6,hpx1_6⟩)))
 replace hz:=Qo hz hc9
 refine Qv (Q8 ?_)
 refine (Qa ?_)
 refine Qh <|Qi <|Qc (Qe (.pointer (some ⟨bx1,0,none⟩)) hT_0) <|Qc (Q6 rfl) <|Qc (Qp fa90_7 rfl) <|Qc (Ql (.int .i64 x1.acts) Z9 rfl (hS.bvB 2 rfl) (GCluster.p7 (rr hcx1))) <|Qc (Zz rfl rfl) <|Qc (Q6 rfl) <|Qc (Qp fa90_7 rfl) ?_
 obtain ⟨d19,hd18,hz⟩:=Qb hz
 refine Qt (Q7 2 1 hS rfl hcx1 rfl rfl (ri (IntKind.wrap .i64 (x1.acts+1)):rep M _ _) rfl rfl (GCluster.u7 (rr hcx1) (Lf (GCluster.p7 (rr hcx1)) (ri (IntKind.wrap .i64 (x1.acts+1)):rep M _ _))) hd18 ?_)
 intro cs18 w17 hb18 ha18 hs18 hS
 have hp20:=(ha18 (by omega)).trans hpx1_6
 refine Qf (Qa ?_)
 refine Q0 (fun T' w' => ∃ M22 cs24 d25 cs26 d27 v28 xs29 l30,Mm.ext w.heap.size (lentX [.box bx1 cx1 90,.stk ux1_6 9 1 xsx1_6]) M M22∧St w (lentX [.box bx1 cx1 90,.stk ux1_6 9 1 xsx1_6]) M22 [.box b8 cs24 40,.box b6 cx4 43,.box bx1 cs26 90,.stk v28 9 1 xs29] w'∧rep M22 cs24 d25∧rep M22 cs26 d27∧skr M22 v28 xs29 l30∧sl cs26 (0+1993) 1=[v28]∧T' 4 = .pointer (some ⟨b8,0,none⟩)∧T' 5=evT (fun _=>undef) (.func 46)∧clDo_j1 fu d25 d27 l30=some r) ?_ ?_
 have hF41:=Qg w.heap.size (lentX [.box bx1 cx1 90,.stk ux1_6 9 1 xsx1_6]) M
 refine Qh <|Qi <|Qc (Qp fa43_0 rfl) <|Qc (Ql (.int .i64 x4.kind) Z9 rfl (hS.bvB 1 rfl) (Jk (rr hcx4))) ?_
 refine Qf (Qa ?_)
 refine Qy <|Qh <|Qi <|Qc (Yd rfl rfl) <|Qc (Qj (.bool (x4.kind==1)) rfl) ?_
 refine Qf (Qa ?_)
 refine Qs rfl (fun hc42 => ?_) (fun hc42 => ?_)
 replace hz:=Qn hz hc42
 refine Qh <|Qi <|Qc (Qe (.pointer (some ⟨bx1,0,none⟩)) hT_0) <|Qc (Qp fa43_3 rfl) ?_
 obtain ⟨v43,ev43,hv43⟩:=(GAct.p3 (rr hcx4))
 refine Qc (Ql v43 Vn rfl (hS.bvB 1 rfl) ev43) ?_
 obtain ⟨r46,hr45,hz⟩:=Qb hz
 refine Qt (Zu (vs:=[.pointer (some ⟨bx1,0,none⟩),v43]) (L:=[.box bx1 cs18 90,.stk ux1_6 9 1 xsx1_6]) (R:=[.box b8 (Zr.zc GReply) 40,.box b6 cx4 43]) (rv:=(fun M' u L' => ∃ c0 k0 u1 x1,u = .agg c0.toArray∧L'=[.box bx1 k0 90,.stk u1 9 1 x1]∧rep M' c0 r46.1∧rep M' k0 r46.2.1∧skr M' u1 x1 r46.2.2∧sl k0 1993 1=[u1])) cb47 (Z7 rfl rfl) hS (hS.sel [2,3,0,1] (by decide) rfl) (fun hS=>clBegin_ok hS hb18 hkx1_6 hp20 hv43 hr45) ?_)
 rintro u45 M45 w44 L45 hx45 ⟨c0_45,k0_45,u1_45,x1_45,rfl,hL45,f45_0,f45_1,f45_2,f45_3⟩ hS
 replace hS:=hS _ hL45
 replace zb8:=Rep.mono hx45.1 zb8
 replace hE:=Qd hE hx45
 obtain ⟨d49,hd48,hz⟩:=Qb hz
 refine Qt (Q7 2 3 hS rfl zb8 rfl rfl f45_0 rfl rfl (Lf (rr zb8) f45_0) hd48 ?_)
 intro cs48 w47 hb48 ha48 hs48 hS
 refine Qf (Qa ?_)
 cases hz
 exact Q4 (Zc (Qq (Jr (j:=2) rfl rfl (by rw [Rep.len hb48];exact Kq) hS rfl ⟨_,M45,_,rfl,hE,(hS.sel (H':=[.box bx1 k0_45 90,.stk u1_45 9 1 x1_45]) [0,1] (by decide) rfl),cs48,k0_45,u1_45,x1_45,rfl,rfl,hb48,f45_1,f45_2,f45_3⟩)))
 replace hz:=Qo hz hc42
 refine Q0 (fun T' w' => ∃ M51 c53,Mm.ext w.heap.size (lentX [.box bx1 cx1 90,.stk ux1_6 9 1 xsx1_6]) M M51∧St w (lentX [.box bx1 cx1 90,.stk ux1_6 9 1 xsx1_6]) M51 [.box b8 (Zr.zc GReply) 40,.box b6 cx4 43,.box bx1 cs18 90,.stk ux1_6 9 1 xsx1_6] w'∧T' 0 = .pointer (some ⟨bx1,0,none⟩)∧T' 3 = .pointer (some ⟨b6,0,none⟩)∧T' 4 = .pointer (some ⟨b8,0,none⟩)∧T' 5=evT (fun _=>undef) (.func 46)∧T' 27 = .int .i64 x4.kind∧T' 34 = .bool c53∧clDo_j2 fu l3 x4 d19 c53=some r) ?_ ?_
 have hF126:=Qg w.heap.size (lentX [.box bx1 cx1 90,.stk ux1_6 9 1 xsx1_6]) M
 refine Qh <|Qi <|Qc (Yd rfl rfl) <|Qc (Qj (.bool (x4.kind==2)) rfl) ?_
 refine Qf (Qa ?_)
 refine Qs rfl (fun hc127 => ?_) (fun hc127 => ?_)
 replace hz:=Qn hz hc127
 refine Qv (Qa ?_)
 exact ⟨M,(x4.kind==2),hF126,hS,hT_0,rfl,rfl,rfl,rfl,rfl,hz⟩
 replace hz:=Qo hz hc127
 refine Qh <|Qi <|Qc (Yd rfl rfl) <|Qc (Qj (.bool (x4.kind==3)) rfl) ?_
 refine Qf (Qa ?_)
 refine Qs rfl (fun hc128 => ?_) (fun hc128 => ?_)
 replace hz:=Qn hz hc128
 refine Qv (Qa ?_)
 exact ⟨M,(x4.kind==3),hF126,hS,hT_0,rfl,rfl,rfl,rfl,rfl,hz⟩
 replace hz:=Qo hz hc128
 refine Qi <|Qc (Yd rfl rfl) <|Qc (Qj (.bool (x4.kind==4)) rfl) ?_
 refine Qf (Qa ?_)
 exact ⟨M,(x4.kind==4),hF126,hS,hT_0,rfl,rfl,rfl,rfl,rfl,hz⟩
 rintro T52 w50 ⟨M51,c53,hx54,hS,hT52_0,hT52_3,hT52_4,hT52_5,hT52_27,hT52_34,hz⟩
 replace hkx1_6:=Zv hx54.1 hkx1_6
 replace hcx4:=Rep.mono hx54.1 hcx4
 replace zb8:=Rep.mono hx54.1 zb8
 replace hb18:=Rep.mono hx54.1 hb18
 replace hE:=Qd hE hx54
 replace hF41:=Qd hF41 hx54
 rw [clDo_j2] at hz
 refine Qs hT52_34 (fun hc55 => ?_) (fun hc55 => ?_)
 replace hz:=Qn hz hc55
 refine Qh <|Qi <|Qc (Qe (.pointer (some ⟨bx1,0,none⟩)) hT52_0) ?_
 have ha56:=(rr hcx4)
 refine Qc (Zh ta43 hT52_3 (hS.bvB 1 rfl) (Rep.len ha56)) ?_
 obtain ⟨r59,hr58,hz⟩:=Qb hz
 refine Qt (Zu (vs:=[.pointer (some ⟨bx1,0,none⟩),.agg (sl cx4 (0) 4).toArray]) (L:=[.box bx1 cs18 90,.stk ux1_6 9 1 xsx1_6]) (R:=[.box b8 (Zr.zc GReply) 40,.box b6 cx4 43]) (rv:=(fun M' u L' => ∃ c0 k0 u1 x1,u = .agg c0.toArray∧L'=[.box bx1 k0 90,.stk u1 9 1 x1]∧rep M' c0 r59.1∧rep M' k0 r59.2.1∧skr M' u1 x1 r59.2.2∧sl k0 1993 1=[u1])) cb48 (Z7 rfl rfl) hS (hS.sel [2,3,0,1] (by decide) rfl) (fun hS=>clFrame_ok hS hb18 hkx1_6 hp20 ha56 hr58) ?_)
 rintro u58 M58 w57 L58 hx58 ⟨c0_58,k0_58,u1_58,x1_58,rfl,hL58,f58_0,f58_1,f58_2,f58_3⟩ hS
 replace hS:=hS _ hL58
 replace zb8:=Rep.mono hx58.1 zb8
 replace hE:=Qd hE hx58
 obtain ⟨d62,hd61,hz⟩:=Qb hz
 refine Qt (Q7 2 3 hS rfl zb8 hT52_4 rfl f58_0 rfl rfl (Lf (rr zb8) f58_0) hd61 ?_)
 intro cs61 w60 hb61 ha61 hs61 hS
 refine Qf (Qa ?_)
 cases hz
 exact Q4 (Zc (Qq (Jr (j:=2) rfl hT52_4 (by rw [Rep.len hb61];exact Kq) hS rfl ⟨_,M58,_,rfl,hE,(hS.sel (H':=[.box bx1 k0_58 90,.stk u1_58 9 1 x1_58]) [0,1] (by decide) rfl),cs61,k0_58,u1_58,x1_58,rfl,rfl,hb61,f58_1,f58_2,f58_3⟩)))
 replace hz:=Qo hz hc55
 refine Qh <|Qi <|Qc (Yd hT52_27 rfl) <|Qc (Qj (.bool (x4.kind==5)) rfl) ?_
 refine Qf (Qa ?_)
 refine Qs rfl (fun hc63 => ?_) (fun hc63 => ?_)
 replace hz:=Qn hz hc63
 refine Q0 (fun T' w' => ∃ M65 cs67 d68,Mm.ext w.heap.size (lentX [.box bx1 cx1 90,.stk ux1_6 9 1 xsx1_6]) M51 M65∧St w (lentX [.box bx1 cx1 90,.stk ux1_6 9 1 xsx1_6]) M65 [.box b8 cs67 40,.box b6 cx4 43,.box bx1 cs18 90,.stk ux1_6 9 1 xsx1_6] w'∧rep M65 cs67 d68∧T' 0 = .pointer (some ⟨bx1,0,none⟩)∧T' 3 = .pointer (some ⟨b6,0,none⟩)∧T' 4 = .pointer (some ⟨b8,0,none⟩)∧clDo_j3 fu l3 x4 d19 d68=some r) ?_ ?_
 have hF91:=Qg w.heap.size (lentX [.box bx1 cx1 90,.stk ux1_6 9 1 xsx1_6]) M51
 refine Q0 (fun T' w' => ∃ M93 c95,Mm.ext w.heap.size (lentX [.box bx1 cx1 90,.stk ux1_6 9 1 xsx1_6]) M51 M93∧St w (lentX [.box bx1 cx1 90,.stk ux1_6 9 1 xsx1_6]) M93 [.box b8 (Zr.zc GReply) 40,.box b6 cx4 43,.box bx1 cs18 90,.stk ux1_6 9 1 xsx1_6] w'∧T' 0 = .pointer (some ⟨bx1,0,none⟩)∧T' 3 = .pointer (some ⟨b6,0,none⟩)∧T' 4 = .pointer (some ⟨b8,0,none⟩)∧T' 5=evT (fun _=>undef) (.func 46)∧T' 54 = .bool c95∧clDo_j4 fu l3 x4 d19 c95=some r) ?_ ?_
 have hF105:=Qg w.heap.size (lentX [.box bx1 cx1 90,.stk ux1_6 9 1 xsx1_6]) M51
 refine Yq [.box b6 cx4 43,.box bx1 cs18 90] [] Z8 hS fun w106 hS hG107 hR108=>wy 0 rfl (Qp Kr hT52_3) (fun _=>hR108) <|Y0 1 rfl (Ql (.int .i64 x4.n) Z9 rfl (Yo 0 rfl) (V4 (rr hcx4))) hR108 <|wy 2 rfl (Zo rfl rfl) (fun _=>hR108) <|wy 3 rfl (Qe (.bool (decide (x4.n<0))) rfl) (fun _=>hR108) ?_
 rcases ic hz with ⟨hc109,hz⟩ | ⟨hc109,hz⟩<;>rw [hc109]
 refine Yi 4 (j:=3) rfl rfl rfl rfl (fun _=>hR108) <|Yi 5 (j:=3) rfl rfl rfl rfl (fun _=>hR108) <|Yi 6 (j:=3) rfl rfl rfl rfl (fun _=>hR108) <|Yi 7 (j:=3) rfl rfl rfl rfl (fun _=>hR108) <|Yi 8 (j:=3) rfl rfl rfl rfl (fun _=>hR108) <|Yi 9 (j:=3) rfl rfl rfl rfl (fun _=>hR108) <|Yi 10 (j:=3) rfl rfl rfl rfl (fun _=>hR108) <|wy 11 rfl (Zx (.bool true) rfl rfl) (fun _=>hR108) ?_
 refine wd (Qa ?_)
 exact ⟨M51,true,hF105,hS,hT52_0,hT52_3,hT52_4,hT52_5,rfl,hz⟩
 refine V0 4 rfl rfl rfl (Qp Kr hT52_3) (fun _=>hR108) <|K0 5 rfl rfl rfl (Ql (.int .i64 x4.n) Z9 rfl (Yo 0 rfl) (V4 (rr hcx4))) hR108 <|V0 6 rfl rfl rfl (Qe (.pointer (some ⟨bx1,0,none⟩)) hT52_0) (fun _=>hR108) <|V0 7 rfl rfl rfl (Q6 rfl) (fun _=>hR108) <|V0 8 rfl rfl rfl (Qp fa90_5 rfl) (fun _=>hR108) <|K0 9 rfl rfl rfl (Ql (.int .i64 d19.begun) Z9 rfl (Yo 1 rfl) (Vv (rr hb18))) hR108 <|V0 10 rfl rfl rfl (Vb rfl rfl) (fun _=>hR108) <|wy 11 rfl (Zj (.bool (decide (x4.n≥d19.begun))) rfl rfl) (fun _=>hR108) ?_
 refine wd (Qa ?_)
 exact ⟨M51,(decide (x4.n≥d19.begun)),hF105,hS,hT52_0,hT52_3,hT52_4,hT52_5,rfl,hz⟩
 rintro T94 w92 ⟨M93,c95,hx96,hS,hT94_0,hT94_3,hT94_4,hT94_5,hT94_54,hz⟩
 replace hkx1_6:=Zv hx96.1 hkx1_6
 replace zb8:=Rep.mono hx96.1 zb8
 replace hb18:=Rep.mono hx96.1 hb18
 replace hE:=Qd hE hx96
 replace hF91:=Qd hF91 hx96
 rw [clDo_j4] at hz
 refine Qs hT94_54 (fun hc97 => ?_) (fun hc97 => ?_)
 replace hz:=Qn hz hc97
 refine Qh <|Qi <|Qc (Qe (evT (fun _=>undef) (.func 46)) hT94_5) ?_
 obtain ⟨r101,hr100,hz⟩:=Qb hz
 refine Qt (OW_fn rfl (Yt (vs:=[.int .i64 4]) (rv:=(fun M' u => ∃ cs,u = .agg cs.toArray∧rep M' cs r101)) cb46 (Zs rfl) hS (clNo_ok hS.agree hr100)) ?_)
 intro u100 M100 w99 hx100 hu100 hS
 obtain ⟨c100,hq100,f100⟩:=hu100
 subst hq100
 replace hkx1_6:=Zv hx100.1 hkx1_6
 replace zb8:=Rep.mono hx100.1 zb8
 replace hb18:=Rep.mono hx100.1 hb18
 replace hE:=Qd hE hx100
 obtain ⟨d104,hd103,hz⟩:=Qb hz
 refine Qt (Q7 0 3 hS rfl zb8 hT94_4 rfl f100 rfl rfl (Lf (rr zb8) f100) hd103 ?_)
 intro cs103 w102 hb103 ha103 hs103 hS
 refine Qf (Qa ?_)
 cases hz
 exact Q4 (Qq (Zc (Qq (Jr (j:=0) rfl hT94_4 (by rw [Rep.len hb103];exact Kq) hS rfl ⟨_,M100,_,rfl,hE,(hS.sel (H':=[.box bx1 cs18 90,.stk ux1_6 9 1 xsx1_6]) [2,3] (by decide) rfl),cs103,cs18,ux1_6,xsx1_6,rfl,rfl,hb103,hb18,hkx1_6,hp20⟩))))
 replace hz:=Qo hz hc97
 refine Qv (Qa ?_)
 exact ⟨M93,(Zr.zc GReply),(Zr.zd:GReply),hF91,hS,zb8,hT94_0,hT94_3,hT94_4,hz⟩
 rintro T66 w64 ⟨M65,cs67,d68,hx69,hS,hb67,hT66_0,hT66_3,hT66_4,hz⟩
 replace hcx4:=Rep.mono hx69.1 hcx4
 replace hb18:=Rep.mono hx69.1 hb18
 rw [clDo_j3] at hz
 refine Qh <|Yq [.box b6 cx4 43,.box bx1 cs18 90] [11] Z8 hS fun w70 hS hG71 hR72=>wy 0 rfl (Qe (.pointer (some ⟨bx1,0,none⟩)) hT66_0) (fun _=>hR72) <|wy 1 rfl (Qe (.pointer (some ⟨bx1,0,none⟩)) hT66_0) (fun _=>hR72) <|wy 2 rfl (Qp Kr hT66_3) (fun _=>hR72) <|wlC (inL [6,7,10,11]) 3 rfl (Ql (.int .i64 x4.n) Z9 rfl (Yo 0 rfl) (V4 (rr hcx4))) hR72 <|wy 4 rfl (Q6 rfl) (fun _=>hR72) <|wy 5 rfl (Qp fa90_4 rfl) (fun _=>hR72) ?_
 obtain ⟨u73,hx74,hz⟩:=Qb hz
 obtain ⟨hx74a,hx74b⟩:=Qw hx74
 refine wy 6 rfl (Zb ia88 rfl rfl hx74a hx74b) (fun _=>hR72) ?_
 obtain ⟨x75,hx76,hz⟩:=Qb hz
 have ha77:=(vp (k:=24) rfl rfl (Vd (rr hb18)) hx76)
 refine wlC (inL [10,11]) 7 rfl (Zh Y9 rfl (Yo 1 rfl) (Rep.len ha77)) hR72 <|wy 8 rfl (Qp Kr hT66_3) (fun _=>hR72) <|wlC (inL [10,11]) 9 rfl (Ql (.int .i64 x4.n) Z9 rfl (Yo 0 rfl) (V4 (rr hcx4))) hR72 ?_
 obtain ⟨r80,hr79,hz⟩:=Qb hz
 refine w1 10 rfl (Yt (vs:=[.agg (sl cs18 (0+1224+Int.toNat x4.n*24) 24).toArray,.int .i64 x4.n]) (rv:=(fun M' u=>repL M' u r80)) cb50 (Z7 rfl rfl) hS (again_ok hS.agree ha77 hr79) ?_)
 intro u79 M79 w78 hx79 hu79 hS
 have f79:repL M79 u79 r80:=hu79
 replace hkx1_6:=Zv (hx69.1.trans hx79.1) hkx1_6
 replace hb18:=Rep.mono hx79.1 hb18
 replace hG71:=Qd hG71 hx79
 refine Yp hS hG71 fun hR81 => ?_
 obtain ⟨r84,hr83,hz⟩:=Qb hz
 refine w1 11 rfl (Zu (vs:=[.pointer (some ⟨bx1,0,none⟩),u79]) (L:=[.box bx1 cs18 90,.stk ux1_6 9 1 xsx1_6]) (R:=[.box b8 cs67 40,.box b6 cx4 43]) (rv:=(fun M' u L' => ∃ k0 u1 x1,u = .tuple #[]∧L'=[.box bx1 k0 90,.stk u1 9 1 x1]∧rep M' k0 r84.1∧skr M' u1 x1 r84.2∧sl k0 1993 1=[u1])) cb49 (Z7 rfl rfl) hS (hS.sel [2,3,0,1] (by decide) rfl) (fun hS=>clSend_ok hS hb18 hkx1_6 hp20 f79 hr83) ?_)
 rintro u83 M83 w82 L83 hx83 ⟨k0_83,u1_83,x1_83,rfl,hL83,f83_0,f83_1,f83_2⟩ hS
 replace hS:=hS _ hL83
 replace hcx4:=Rep.mono (hx79.1.trans hx83.1) hcx4
 refine ⟨nB,?_⟩
 refine wd (Qa ?_)
 refine Qh <|Qi <|Qc (Qe (.pointer (some ⟨bx1,0,none⟩)) hT66_0) <|Qc (Qp Kr hT66_3) <|Qc (Ql (.int .i64 x4.n) Z9 rfl (hS.bvB 3 rfl) (V4 (rr hcx4))) ?_
 obtain ⟨r87,hr86,hz⟩:=Qb hz
 refine Qt (Zu (vs:=[.pointer (some ⟨bx1,0,none⟩),.int .i64 x4.n]) (L:=[.box bx1 k0_83 90]) (R:=[.stk u1_83 9 1 x1_83,.box b8 cs67 40,.box b6 cx4 43]) (rv:=(fun M' u L' => ∃ c0,u = .agg c0.toArray∧L'=[.box bx1 k0_83 90]∧rep M' c0 r87)) cb51 (Z7 rfl rfl) hS (hS.sel [0,1,2,3] (by decide) rfl) (fun hS=>clTold_ok hS f83_0 hr86) ?_)
 rintro u86 M86 w85 L86 hx86 ⟨c0_86,rfl,hL86,f86_0⟩ hS
 replace hS:=hS _ hL86
 replace hb67:=Rep.mono (hx79.1.trans (hx83.1.trans hx86.1)) hb67
 replace f83_0:=Rep.mono hx86.1 f83_0
 replace f83_1:=Zv hx86.1 f83_1
 replace hE:=Qd hE (hx69.trans (hx79.trans (hx83.trans hx86)))
 obtain ⟨d90,hd89,hz⟩:=Qb hz
 refine Qt (Q7 2 3 hS rfl hb67 hT66_4 rfl f86_0 rfl rfl (Lf (rr hb67) f86_0) hd89 ?_)
 intro cs89 w88 hb89 ha89 hs89 hS
 refine Qf (Qa ?_)
 cases hz
 exact Q4 (Zc (Qq (Jr (j:=2) rfl hT66_4 (by rw [Rep.len hb89];exact Kq) hS rfl ⟨_,M86,_,rfl,hE,(hS.sel (H':=[.box bx1 k0_83 90,.stk u1_83 9 1 x1_83]) [0,1] (by decide) rfl),cs89,k0_83,u1_83,x1_83,rfl,rfl,hb89,f83_0,f83_1,f83_2⟩)))
 replace hz:=Qo hz hc63
 refine Q0 (fun T' w' => ∃ M111 c113,Mm.ext w.heap.size (lentX [.box bx1 cx1 90,.stk ux1_6 9 1 xsx1_6]) M51 M111∧St w (lentX [.box bx1 cx1 90,.stk ux1_6 9 1 xsx1_6]) M111 [.box b8 (Zr.zc GReply) 40,.box b6 cx4 43,.box bx1 cs18 90,.stk ux1_6 9 1 xsx1_6] w'∧T' 0 = .pointer (some ⟨bx1,0,none⟩)∧T' 3 = .pointer (some ⟨b6,0,none⟩)∧T' 4 = .pointer (some ⟨b8,0,none⟩)∧T' 5=evT (fun _=>undef) (.func 46)∧T' 73 = .bool c113∧clDo_j5 fu l3 x4 d19 c113=some r) ?_ ?_
 have hF123:=Qg w.heap.size (lentX [.box bx1 cx1 90,.stk ux1_6 9 1 xsx1_6]) M51
 refine Qh <|Qi <|Qc (Yd hT52_27 rfl) <|Qc (Qj (.bool (x4.kind==6)) rfl) ?_
 refine Qf (Qa ?_)
 refine Qs rfl (fun hc124 => ?_) (fun hc124 => ?_)
 replace hz:=Qn hz hc124
 refine Qv (Qa ?_)
 exact ⟨M51,(x4.kind==6),hF123,hS,hT52_0,hT52_3,hT52_4,hT52_5,rfl,hz⟩
 replace hz:=Qo hz hc124
 refine Qh <|Qi <|Qc (Yd hT52_27 rfl) <|Qc (Qj (.bool (x4.kind==7)) rfl) ?_
 refine Qf (Qa ?_)
 refine Qs rfl (fun hc125 => ?_) (fun hc125 => ?_)
 replace hz:=Qn hz hc125
 refine Qv (Qa ?_)
 exact ⟨M51,(x4.kind==7),hF123,hS,hT52_0,hT52_3,hT52_4,hT52_5,rfl,hz⟩
 replace hz:=Qo hz hc125
 refine Qi <|Qc (Yd hT52_27 rfl) <|Qc (Qj (.bool (x4.kind==8)) rfl) ?_
 refine Qf (Qa ?_)
 exact ⟨M51,(x4.kind==8),hF123,hS,hT52_0,hT52_3,hT52_4,hT52_5,rfl,hz⟩
 rintro T112 w110 ⟨M111,c113,hx114,hS,hT112_0,hT112_3,hT112_4,hT112_5,hT112_73,hz⟩
 replace hkx1_6:=Zv hx114.1 hkx1_6
 replace hcx4:=Rep.mono hx114.1 hcx4
 replace zb8:=Rep.mono hx114.1 zb8
 replace hb18:=Rep.mono hx114.1 hb18
 replace hE:=Qd hE hx114
 replace hF41:=Qd hF41 hx114
 rw [clDo_j5] at hz
 refine Qs hT112_73 (fun hc115 => ?_) (fun hc115 => ?_)
 replace hz:=Qn hz hc115
 refine Qh <|Qi <|Qc (Qe (.pointer (some ⟨bx1,0,none⟩)) hT112_0) ?_
 have ha116:=(rr hcx4)
 refine Qc (Zh ta43 hT112_3 (hS.bvB 1 rfl) (Rep.len ha116)) ?_
 obtain ⟨r119,hr118,hz⟩:=Qb hz
 refine Qt (Zu (vs:=[.pointer (some ⟨bx1,0,none⟩),.agg (sl cx4 (0) 4).toArray]) (L:=[.box bx1 cs18 90,.stk ux1_6 9 1 xsx1_6]) (R:=[.box b8 (Zr.zc GReply) 40,.box b6 cx4 43]) (rv:=(fun M' u L' => ∃ c0 k0 u1 x1,u = .agg c0.toArray∧L'=[.box bx1 k0 90,.stk u1 9 1 x1]∧rep M' c0 r119.1∧rep M' k0 r119.2.1∧skr M' u1 x1 r119.2.2∧sl k0 1993 1=[u1])) cb52 (Z7 rfl rfl) hS (hS.sel [2,3,0,1] (by decide) rfl) (fun hS=>clPower_ok hS hb18 hkx1_6 hp20 ha116 hr118) ?_)
 rintro u118 M118 w117 L118 hx118 ⟨c0_118,k0_118,u1_118,x1_118,rfl,hL118,f118_0,f118_1,f118_2,f118_3⟩ hS
 replace hS:=hS _ hL118
 replace zb8:=Rep.mono hx118.1 zb8
 replace hE:=Qd hE hx118
 obtain ⟨d122,hd121,hz⟩:=Qb hz
 refine Qt (Q7 2 3 hS rfl zb8 hT112_4 rfl f118_0 rfl rfl (Lf (rr zb8) f118_0) hd121 ?_)
 intro cs121 w120 hb121 ha121 hs121 hS
 refine Qf (Qa ?_)
 cases hz
 exact Q4 (Zc (Qq (Jr (j:=2) rfl hT112_4 (by rw [Rep.len hb121];exact Kq) hS rfl ⟨_,M118,_,rfl,hE,(hS.sel (H':=[.box bx1 k0_118 90,.stk u1_118 9 1 x1_118]) [0,1] (by decide) rfl),cs121,k0_118,u1_118,x1_118,rfl,rfl,hb121,f118_1,f118_2,f118_3⟩)))
 replace hz:=Qo hz hc115
 refine Qv (Q8 ?_)
 refine (Qa ?_)
 exact ⟨M111,(Zr.zc GReply),(Zr.zd:GReply),cs18,d19,ux1_6,xsx1_6,l3,hF41,hS,zb8,hb18,hkx1_6,hp20,hT112_4,hT112_5,hz⟩
 rintro T23 w21 ⟨M22,cs24,d25,cs26,d27,v28,xs29,l30,hx33,hS,hb24,hb26,hk31,hp32,hT23_4,hT23_5,hz⟩
 rw [clDo_j1] at hz
 refine Qh <|Qi <|Qc (Qe (evT (fun _=>undef) (.func 46)) hT23_5) ?_
 obtain ⟨r37,hr36,hz⟩:=Qb hz
 refine Qt (OW_fn rfl (Yt (vs:=[.int .i64 3]) (rv:=(fun M' u => ∃ cs,u = .agg cs.toArray∧rep M' cs r37)) cb46 (Zs rfl) hS (clNo_ok hS.agree hr36)) ?_)
 intro u36 M36 w35 hx36 hu36 hS
 obtain ⟨c36,hq36,f36⟩:=hu36
 subst hq36
 replace hb24:=Rep.mono hx36.1 hb24
 replace hb26:=Rep.mono hx36.1 hb26
 replace hk31:=Zv hx36.1 hk31
 replace hE:=Qd hE (hx33.trans hx36)
 obtain ⟨d40,hd39,hz⟩:=Qb hz
 refine Qt (Q7 0 3 hS rfl hb24 hT23_4 rfl f36 rfl rfl (Lf (rr hb24) f36) hd39 ?_)
 intro cs39 w38 hb39 ha39 hs39 hS
 refine Qf (Qa ?_)
 cases hz
 exact Q4 (Jr (j:=0) rfl hT23_4 (by rw [Rep.len hb39];exact Kq) hS rfl ⟨_,M36,_,rfl,hE,(hS.sel (H':=[.box bx1 cs26 90,.stk v28 9 1 xs29]) [2,3] (by decide) rfl),cs39,cs26,v28,xs29,rfl,rfl,hb39,hb26,hk31,hp32⟩)
def clNewD (fu:Nat):Option (GCluster × (List ByteArray)) :=
 (some ({ nodes:=Zr.zd,logs:=Zr.zd,down:=Zr.zd,tear:=Zr.zd,cases:=Zr.zd,begun:=Zr.zd,net:=Zr.zd,acts:=Zr.zd }:GCluster)).bind fun d2 =>
 some (d2,([]:List ByteArray))
set_option maxRecDepth 100000 in
set_option maxHeartbeats 4000000 in
theorem clNew_ok {M:Mm} {w:World} {fu:Nat} {r:GCluster × (List ByteArray)} (hA:Agree M w)  (hz:clNewD fu=some r) :
    Calls Try.prog 41 #[] w (GivesL M w [] (fun M' u L' => ∃ bP0 kP0 uP6 xP6,u = .pointer (some ⟨bP0,0,none⟩)∧L'=[.box bP0 kP0 90,.stk uP6 9 1 xP6]∧rep M' kP0 r.1∧skr M' uP6 xP6 r.2∧sl kP0 1993 1=[uP6])):=by
 refine Zi Try.func41 rfl 3 rfl rfl (by kernel_rfl) fun T hT => ?_
 clear hT
 have hE:=Qg w.heap.size (lentX []) M
 have hS:St w (lentX []) M [] w:=Zt hA
 rw [clNewD] at hz
 refine Qh <|Qi <|Qc (Qj (.pointer none) rfl) ?_
 refine Qf (Qa ?_)
 refine Qh <|Qi ?_
 obtain ⟨d2,hd1,hz⟩:=Qb hz
 obtain ⟨cs1,hf1,ha1⟩ : ∃ cs,fillZ (([(0,1206),(1206,6),(1212,6),(1218,6),(1224,768),(1992,1),(1993,1),(1994,1)]:List (Nat × Nat))[·]?) (Zr.zc GCluster) []=some cs∧rep M cs d2:=⟨_,Ya,Yb (x:=({ nodes:=Zr.zd,logs:=Zr.zd,down:=Zr.zd,tear:=Zr.zd,cases:=Zr.zd,begun:=Zr.zd,net:=Zr.zd,acts:=Zr.zd }:GCluster)) (Zr.zr:rep M (Zr.zc GCluster) (Zr.zd:GCluster)) hd1⟩
 have hp3:sl cs1 1993 1=[.slice none 0 0]:=(Yw hf1 (by rfl)).trans (by rfl)
 replace hS:=hS.nilStk 9 1
 have hk5:skr M (.slice none 0 0) [] ([]:List ByteArray):=skr_nil
 refine Qc (Zy [] tb90 Vc hf1) ?_
 refine Qt (Ys (v := .agg cs1.toArray) (cs:=cs1) rfl rfl hS ?_)
 intro b7 w6 hb7 hS
 refine Qc (Qj (.pointer (some ⟨b7,0,none⟩)) rfl) ?_
 refine Qf (Qa ?_)
 cases hz
 exact Q4 (Yg rfl rfl ⟨_,M,_,rfl,hE,(hS.sel (H':=[.box b7 cs1 90,.stk (.slice none 0 0) 9 1 []]) [0,1] (by decide) rfl),b7,cs1,(.slice none 0 0),[],rfl,rfl,ha1,hk5,hp3⟩)
end Go.Proofs.Yteilffoclpgijaa
namespace Go.Proofs.Yteilffoclpgijaa
open Go.RowKit
theorem i64_or_nat (a b:Nat) (ha:a<4611686018427387904) (hb:b<4611686018427387904) (h:a ||| b<9223372036854775808):bits .or .i64 (a:Int) (b:Int)=((a ||| b:Nat):Int):=by
  show IntKind.i64.wrap ((BitVec.ofInt 64 (a:Int) ||| BitVec.ofInt 64 (b:Int)).toNat:Int)=_
  rw [BitVec.ofInt_natCast,BitVec.ofInt_natCast,BitVec.toNat_or,BitVec.toNat_ofNat,BitVec.toNat_ofNat,Nat.mod_eq_of_lt (by omega),Nat.mod_eq_of_lt (by omega)]
  exact IntWalk.i64_in _ (by omega)
theorem or_bytes (a b:Nat) (ha:a<4611686018427387904 / 256) (hb:b<256):bits .or .i64 ((a:Int)*256) (b:Int)=(a:Int)*256+b:=by
  have h:=Nat.two_pow_add_eq_or_of_lt (i:=8) (b:=b) (by omega) a
  have e:((a*256:Nat):Int)=(a:Int)*256:=by omega
  rw [← e,i64_or_nat _ _ (by omega) (by omega) (by rw [Nat.mul_comm];rw [show (256:Nat)=2 ^ 8 from rfl,← h];omega)]
  rw [Nat.mul_comm,show (256:Nat)=2 ^ 8 from rfl,← h]
  omega
end Go.Proofs.Yteilffoclpgijaa
namespace Go.Proofs.Yteilffoclpgijaa
open Go.RowKit
def RTexts (S:Nat→Prop) (w:World) (v:Value) (l:List ByteArray):Prop:=RRow S w v 1 16 l.length (l.map Value.string)
def recN (a b:UInt8):Nat:=a.toNat*256+b.toNat
def readL (l:List UInt8):List ByteArray × Nat :=
  match l with
  | a::b::r =>
    if 1≤recN a b∧recN a b≤400∧recN a b≤r.length then
      (⟨(r.take (recN a b)).toArray⟩::(readL (r.drop (recN a b))).1,2+recN a b+(readL (r.drop (recN a b))).2)
    else ([],0)
  | _=>([],0)
termination_by l.length
decreasing_by all_goals (simp only [List.length_cons,List.length_drop];omega)
theorem readL_stop {a b:UInt8} {r:List UInt8} (h : ¬ (1≤recN a b∧recN a b≤400∧recN a b≤r.length)):readL (a::b::r)=([],0):=by
  rw [readL,if_neg h]
theorem readL_go {a b:UInt8} {r:List UInt8} (h:1≤recN a b∧recN a b≤400∧recN a b≤r.length) :
    readL (a::b::r)=(⟨(r.take (recN a b)).toArray⟩::(readL (r.drop (recN a b))).1,2+recN a b+(readL (r.drop (recN a b))).2):=by
  rw [readL,if_pos h]
theorem readL_short {l:List UInt8} (h:l.length<2):readL l=([],0):=by
  match l,h with
  | [],_=>rw [readL];intro a b r h;cases h
  | [x],_=>rw [readL];intro a b r h;cases h
def ReadTo (log:ByteArray) (acc:List ByteArray) (k:Nat):Prop :=
  (readL log.data.toList).1=acc++(readL (log.data.toList.drop k)).1∧(readL log.data.toList).2=k+(readL (log.data.toList.drop k)).2∧acc.length≤k
theorem readTo_zero (log:ByteArray):ReadTo log [] 0:=by simp [ReadTo]
theorem drop_two {log:ByteArray} {k:Nat} (h:k+2≤log.size):log.data.toList.drop k=log[k]::log[k+1]::log.data.toList.drop (k+2):=by
  have hl:log.data.toList.length=log.size:=rfl
  rw [List.drop_eq_getElem_cons (by omega),List.drop_eq_getElem_cons (by omega)]
  rfl
theorem readTo_next {log:ByteArray} {acc:List ByteArray} {k:Nat} (h:ReadTo log acc k) (hk:k+2≤log.size)
    (hn:1≤recN log[k] log[k+1]∧recN log[k] log[k+1]≤400∧recN log[k] log[k+1]≤log.size-k-2) :
    ReadTo log (acc++[log.extract (k+2) (k+2+recN log[k] log[k+1])]) (k+(2+recN log[k] log[k+1])):=by
  obtain ⟨h1,h2,h3⟩:=h
  have hl:log.data.toList.length=log.size:=rfl
  rw [drop_two hk,readL_go (by rw [List.length_drop,hl];omega),List.drop_drop] at h1 h2
  have he:log.extract (k+2) (k+2+recN log[k] log[k+1])=⟨(List.take (recN log[k] log[k+1]) (List.drop (k+2) log.data.toList)).toArray⟩:=by
    apply str_ext
    rw [Go.Lib.extract_data]
    simp
  have e2:k+2+recN log[k] log[k+1]=k+(2+recN log[k] log[k+1]):=by omega
  rw [e2] at h1 h2
  refine ⟨?_,by omega,by simp;omega⟩
  rw [h1,← e2,he]
  simp
theorem readTo_end {log:ByteArray} {acc:List ByteArray} {k:Nat} (h:ReadTo log acc k) (he:readL (log.data.toList.drop k)=([],0)):readL log.data.toList=(acc,k):=by
  obtain ⟨h1,h2,_⟩:=h
  rw [he] at h1 h2
  simp at h1 h2
  rw [← h1,← h2]
end Go.Proofs.Yteilffoclpgijaa
namespace Go.Proofs.Yteilffoclpgijaa
open Go.RowKit
theorem RTexts.shape {S:Nat→Prop} {w:World} {v:Value} {l:List ByteArray} (h:RTexts S w v l) : ∃ a cap,v = .slice a l.length cap∧l.length≤17592186043904:=by
  obtain ⟨a,cap,he,h1,h2,h3,h4,h5⟩:=h
  exact ⟨a,cap,he,by omega⟩
theorem RTexts.later {S:Nat→Prop} {w w':World} {v:Value} {l:List ByteArray} (h:RTexts S w v l) (hb:Below w.heap.size w w'):RTexts S w' v l:=RRow.later h hb
theorem RTexts.at {S:Nat→Prop} {w:World} {a:Option Addr} {n cap:Nat} {l:List ByteArray} (h:RTexts S w (.slice a n cap) l) {k:Nat} {x:ByteArray} (hx:l[k]? = some x) :
    ∃ b off,a=some ⟨b,off,none⟩∧S b∧b<w.heap.size∧w.cell? ⟨b,off+k,none⟩=some (.string x):=by
  obtain ⟨a',cap',he,h1,h2,h3,h4,h5⟩:=h
  cases he
  obtain ⟨b,off,ha,hb,hc⟩:=h5 k (.string x) (by simp [hx])
  exact ⟨b,off,ha,hb,cell_lt hc,hc⟩
end Go.Proofs.Yteilffoclpgijaa
namespace Go.Proofs.Yteilffoclpgijaa
open Go.RowKit
theorem readL_append : ∀ (n:Nat) (l m:List UInt8),l.length≤n→(readL l).2=l.length→readL (l++m)=((readL l).1++(readL m).1,l.length+(readL m).2):=by
  intro n
  induction n with
  | zero =>
    intro l m hl h
    have:l=[]:=List.eq_nil_of_length_eq_zero (by omega)
    subst this
    rw [readL_short (l:=[]) (by decide)]
    simp
  | succ n ih =>
    intro l m hl h
    match l with
    | [] =>
      rw [readL_short (l:=[]) (by decide)]
      simp
    | [x] =>
      rw [readL_short (l:=[x]) (by simp)] at h
      simp at h
    | a::b::r =>
      by_cases hc:1≤recN a b∧recN a b≤400∧recN a b≤r.length
      · rw [readL_go hc] at h ⊢
        simp only [List.length_cons] at h hl
        have hd:(readL (r.drop (recN a b))).2=(r.drop (recN a b)).length:=by rw [List.length_drop];omega
        have hih:=ih (r.drop (recN a b)) m (by rw [List.length_drop];omega) hd
        have hc2:1≤recN a b∧recN a b≤400∧recN a b≤(r++m).length:=by rw [List.length_append];omega
        show readL (a::b::(r++m))=_
        rw [readL_go hc2,List.take_append_of_le_length hc.2.2,List.drop_append_of_le_length hc.2.2,hih]
        simp only [List.cons_append,List.length_cons,Prod.mk.injEq,true_and,List.length_drop]
        omega
      · rw [readL_stop hc] at h
        simp at h
def recL (s:ByteArray):List UInt8:=UInt8.ofNat (s.size / 256)::UInt8.ofNat (s.size%256)::s.data.toList
theorem recN_of (s:ByteArray) (h:s.size≤400):recN (UInt8.ofNat (s.size / 256)) (UInt8.ofNat (s.size%256))=s.size:=by
  unfold recN
  simp only [UInt8.toNat_ofNat']
  omega
theorem wtext_data (log s:ByteArray) (h:s.size≤400):(wtext log s).data.toList=log.data.toList++recL s:=by
  unfold wtext recL
  simp only [data_append,strOfNums_data,List.map_cons,List.map_nil]
  rw [show ((s.size:Int) / 256).toNat=s.size / 256 by omega,show ((s.size:Int)%256).toNat=s.size%256 by omega]
  simp
theorem recL_len (s:ByteArray):(recL s).length=s.size+2:=by
  have:s.data.toList.length=s.size:=rfl
  simp [recL]
theorem readL_rec (s:ByteArray) (h1:1≤s.size) (h2:s.size≤400):readL (recL s)=([s],s.size+2):=by
  have hl:s.data.toList.length=s.size:=rfl
  have hn:=recN_of s h2
  unfold recL
  rw [readL_go (by rw [hn,hl];omega),hn,← hl,List.take_length,List.drop_length,readL_short (l:=[]) (by decide)]
  simp only [Prod.mk.injEq]
  refine ⟨?_,by omega⟩
  first | rfl | trivial
theorem readL_torn (s:ByteArray) (h2:s.size≤400) (t:Nat) (ht:t<s.size+2):readL ((recL s).take t)=([],0):=by
  have hl:s.data.toList.length=s.size:=rfl
  have hn:=recN_of s h2
  unfold recL
  match t,ht with
  | 0,_=>exact readL_short (by simp)
  | 1,_=>exact readL_short (by simp)
  | t+2,ht =>
    simp only [List.take_succ_cons]
    exact readL_stop (by rw [hn,List.length_take,hl];omega)
def Whole (log:ByteArray) (want:List ByteArray):Prop:=readL log.data.toList=(want,log.size)
theorem whole_next {log:ByteArray} {want:List ByteArray} (h:Whole log want) (s:ByteArray) (h1:1≤s.size) (h2:s.size≤400):Whole (wtext log s) (want++[s]):=by
  unfold Whole at *
  have hl:log.data.toList.length=log.size:=rfl
  rw [wtext_data _ _ h2,readL_append _ _ _ (Nat.le_refl _) (by rw [h,hl]),h,readL_rec s h1 h2,wtext_size,hl]
  simp only [Prod.mk.injEq,true_and]
  omega
theorem whole_tear {log:ByteArray} {want:List ByteArray} (h:Whole log want) (s:ByteArray) (n:Int) (h1:1≤s.size) (h2:s.size≤400) (hc:wcode log s=0) :
    readL (tearZ log s n).data.toList=(if (s.size:Int)+2≤n then (want++[s],log.size+(s.size+2)) else (want,log.size))∧(tearZ log s n).size=log.size+tornLen s n:=by
  have hl:log.data.toList.length=log.size:=rfl
  have ht:tornLen s n≤s.size+2:=by unfold tornLen;split<;>(try split)<;>omega
  have hd:(tearZ log s n).data.toList=log.data.toList++(recL s).take (tornLen s n):=by
    unfold tearZ
    rw [if_pos hc,Go.Lib.extract_data,wtext_data _ _ h2,List.drop_zero,Nat.sub_zero,List.take_append,hl,List.take_of_length_le (by omega)]
    congr 2
    omega
  have hsz:(tearZ log s n).size=log.size+tornLen s n:=by
    have:(tearZ log s n).data.toList.length=(tearZ log s n).size:=rfl
    rw [← this,hd,List.length_append,List.length_take,recL_len,hl]
    omega
  refine ⟨?_,hsz⟩
  rw [hd,readL_append _ _ _ (Nat.le_refl _) (by unfold Whole at h;rw [h,hl])]
  unfold Whole at h
  rw [h,hl]
  split
  · rename_i hn
    have:tornLen s n=s.size+2:=by unfold tornLen;split<;>(try split)<;>omega
    rw [this,← recL_len,List.take_length,readL_rec s h1 h2,recL_len]
  · rename_i hn
    rw [readL_torn s h2 _ (by unfold tornLen;split<;>(try split)<;>omega)]
    simp
end Go.Proofs.Yteilffoclpgijaa
namespace Go.Proofs.Yteilffoclpgijaa
open Go.RowKit
open Rep (rep)
theorem number_step (z:Int) (n:Nat) (l:List Byt) (j:Nat) (hj:j<6) (hl:l.length≤1000000) (h1 : -1099511627776≤z) (h2:z≤1099511627776) :
    number_l1 z (n+1) l (j:Int)=number_l1 z n (l++[⟨(z+140737488355328) / ((256 ^ j:Nat):Int)%256⟩]) ((j:Int)-1):=by
  rw [number_l1]
  have hw:IntKind.wrap .i64 (z+140737488355328)=z+140737488355328:=wr64 (by omega) (by omega)
  have h8:IntKind.wrap .u64 (8*IntKind.wrap .u64 (j:Int))=8*(j:Int):=by rw [wrU64 (x:=(j:Int)) (by omega) (by omega),wrU64 (by omega) (by omega)]
  have hs:IntKind.wrap .i64 ((j:Int)-1)=(j:Int)-1:=wr64 (by omega) (by omega)
  have hb:IntKind.bits .i64=64:=rfl
  rw [bif_t (dec_t (by omega)),hw,h8,hs,hb,nonneg_ok (by omega),some_bind,wr8,app_ok (by simp [Rep.bytes];omega),some_bind]
  have ht:Int.toNat (8*(j:Int))=8*j:=by omega
  have hm:min (8*j) 64=8*j:=by omega
  have hp:((2:Int) ^ (8*j))=((256 ^ j:Nat):Int):=by rw [Int.pow_mul];norm_cast
  rw [ht,hm,hp,Int.fdiv_eq_ediv_of_nonneg _ (Int.natCast_nonneg _)]
theorem numberD_eq {fu:Nat} {z:Int} {l:List Byt} (hf:7≤fu) (hl:l.length≤100000) (h1 : -1099511627776≤z) (h2:z≤1099511627776):numberD fu l z=some (l++(sixZ z).map Byt.mk):=by
  obtain ⟨n,rfl⟩ : ∃ n,fu=n+7:=⟨fu-7,by omega⟩
  unfold numberD
  have e5:=number_step z (n+6) l 5 (by omega) (by omega) h1 h2
  have e4:=fun m=>number_step z (n+5) m 4 (by omega)
  have e3:=fun m=>number_step z (n+4) m 3 (by omega)
  have e2:=fun m=>number_step z (n+3) m 2 (by omega)
  have e1:=fun m=>number_step z (n+2) m 1 (by omega)
  have e0:=fun m=>number_step z (n+1) m 0 (by omega)
  have q5:((5:Nat):Int)=5:=rfl
  have q4:((4:Nat):Int)=4:=rfl
  have q3:((3:Nat):Int)=3:=rfl
  have q2:((2:Nat):Int)=2:=rfl
  have q1:((1:Nat):Int)=1:=rfl
  have q0:((0:Nat):Int)=0:=rfl
  rw [q5] at e5
  simp only [q4,q3,q2,q1,q0] at e4 e3 e2 e1 e0
  rw [e5,show (5:Int)-1=4 from rfl,e4 _ (by simp;omega) h1 h2,show (4:Int)-1=3 from rfl,e3 _ (by simp;omega) h1 h2,show (3:Int)-1=2 from rfl,e2 _ (by simp;omega) h1 h2,show (2:Int)-1=1 from rfl,e1 _ (by simp;omega) h1 h2,show (1:Int)-1=0 from rfl,e0 _ (by simp;omega) h1 h2]
  rw [number_l1,bif_f (dec_f (by omega))]
  simp only [List.append_assoc,List.cons_append,List.nil_append,sixZ,List.map_cons,List.map_nil]
  rw [show ((256 ^ 5:Nat):Int)=1099511627776 from rfl,show ((256 ^ 4:Nat):Int)=4294967296 from rfl,show ((256 ^ 3:Nat):Int)=16777216 from rfl,show ((256 ^ 2:Nat):Int)=65536 from rfl,show ((256 ^ 1:Nat):Int)=256 from rfl,Int.ediv_one]
structure FOk (f:GFrame):Prop where
  ops:f.ops.length≤4
  op : ∀ o∈f.ops,0≤o.kind∧o.kind<256∧0≤o.key∧o.key<256 ∧ -1099511627776≤o.n∧o.n≤1099511627776
  deps:f.deps.length≤32
  dep : ∀ n∈f.deps,0≤n∧n<32
  at_:f.at_.length≤4
  ats : ∀ n∈f.at_,0≤n∧n<4
  vals:f.vals.length=f.at_.length
  val : ∀ v∈f.vals,-1099511627776≤v∧v≤1099511627776
  head:0≤f.kind∧f.kind<256∧0≤f.node∧f.node<256∧0≤f.id∧f.id<256
def opBytes (o:GOp):List Int:=o.kind::o.key::sixZ o.n
def valBytes (p:Int × Int):List Int:=p.1::sixZ p.2
def encZ (f:GFrame):List Int :=
  [f.kind,f.node,f.id,f.ops.length]++(f.ops.flatMap opBytes++([(f.deps.length:Int)]++(f.deps++([(f.at_.length:Int)]++(f.at_.zip f.vals).flatMap valBytes))))
theorem sixZ_len (z:Int):(sixZ z).length=6:=rfl
theorem byts (l:List Int):(l.map Byt.mk).map Byt.val=l:=by induction l with | nil=>rfl | cons x t ih=>rw [List.map_cons,List.map_cons,ih]
theorem enc_l3 (f:GFrame) (hf:FOk f) (fu:Nat) (hfu:7≤fu) : ∀ (ra rv:List Int) (k n:Nat) (l:List Byt),f.at_.drop k=ra→f.vals.drop k=rv→ra.length<n→l.length+7*ra.length≤90000→k≤f.at_.length →
    encode_l3 fu f n l (k:Int)=some (strOfNums (l.map Byt.val++(ra.zip rv).flatMap valBytes),0):=by
  intro ra
  induction ra with
  | nil =>
    intro rv k n l ha hv hn hl hk
    obtain ⟨n,rfl⟩ : ∃ m,n=m+1:=⟨n-1,by simp at hn;omega⟩
    have:f.at_.length≤k:=by have:=congrArg List.length ha;simp at this;omega
    rw [encode_l3,bif_f (dec_f (by omega))]
    simp
  | cons a t ih =>
    intro rv k n l ha hv hn hl hk
    obtain ⟨n,rfl⟩ : ∃ m,n=m+1:=⟨n-1,by simp at hn;omega⟩
    have hk2:k<f.at_.length:=by have:=congrArg List.length ha;simp at this;omega
    have hga:f.at_[k]? = some a:=by have:=congrArg (fun x:List Int=>x[0]?) ha;simpa using this
    cases rv with
    | nil=>have:=congrArg List.length hv;simp at this;have:=hf.vals;omega
    | cons v u =>
      have hgv:f.vals[k]? = some v:=by have:=congrArg (fun x:List Int=>x[0]?) hv;simpa using this
      have ha2:f.at_.drop (k+1)=t:=by rw [← List.tail_drop,ha];rfl
      have hv2:f.vals.drop (k+1)=u:=by rw [← List.tail_drop,hv];rfl
      have hv3:=hf.val v (List.mem_of_getElem? hgv)
      have ha3:=hf.ats a (List.mem_of_getElem? hga)
      have h4:=hf.at_
      simp only [List.length_cons] at hl hn
      rw [encode_l3,bif_t (dec_t (by omega)),idx_nat,hga,some_bind,idx_nat,hgv,some_bind,app_ok (by simp [Rep.bytes];omega),some_bind,numberD_eq hfu (by simp;omega) hv3.1 hv3.2,some_bind,
        wr64 (by omega) (by omega),show (k:Int)+1=((k+1:Nat):Int) from rfl,ih u (k+1) n _ ha2 hv2 (by omega) (by simp [sixZ_len];omega) (by omega)]
      congr 3
      simp only [List.map_append,byts,wr8,List.zip_cons_cons,List.flatMap_cons,valBytes,List.map_cons,List.map_nil,List.append_assoc,List.cons_append,List.nil_append]
      rw [Int.emod_eq_of_lt ha3.1 (by omega)]
theorem enc_l2 (f:GFrame) (hf:FOk f) (fu:Nat) (hfu:40≤fu) : ∀ (ra:List Int) (k n:Nat) (l:List Byt),f.deps.drop k=ra→ra.length<n→l.length+ra.length≤80000→k≤f.deps.length →
    encode_l2 fu f n l (k:Int)=some (strOfNums (l.map Byt.val++(ra++([(f.at_.length:Int)]++(f.at_.zip f.vals).flatMap valBytes))),0):=by
  intro ra
  induction ra with
  | nil =>
    intro k n l ha hn hl hk
    obtain ⟨n,rfl⟩ : ∃ m,n=m+1:=⟨n-1,by simp at hn;omega⟩
    have:f.deps.length≤k:=by have:=congrArg List.length ha;simp at this;omega
    have h4:=hf.at_
    simp only [List.length_nil] at hl
    rw [encode_l2,bif_f (dec_f (by omega)),app_ok (by simp [Rep.bytes];omega),some_bind,show (0:Int)=((0:Nat):Int) from rfl,enc_l3 f hf fu (by omega) f.at_ f.vals 0 fu _ rfl rfl (by omega) (by simp;omega) (by omega)]
    congr 3
    simp only [List.map_append,wr8,List.map_cons,List.map_nil,List.append_assoc,List.nil_append]
    rw [Int.emod_eq_of_lt (by omega) (by omega)]
  | cons a t ih =>
    intro k n l ha hn hl hk
    obtain ⟨n,rfl⟩ : ∃ m,n=m+1:=⟨n-1,by simp at hn;omega⟩
    have hk2:k<f.deps.length:=by have:=congrArg List.length ha;simp at this;omega
    have hga:f.deps[k]? = some a:=by have:=congrArg (fun x:List Int=>x[0]?) ha;simpa using this
    have ha2:f.deps.drop (k+1)=t:=by rw [← List.tail_drop,ha];rfl
    have ha3:=hf.dep a (List.mem_of_getElem? hga)
    have h32:=hf.deps
    simp only [List.length_cons] at hl hn
    rw [encode_l2,bif_t (dec_t (by omega)),idx_nat,hga,some_bind,app_ok (by simp [Rep.bytes];omega),some_bind,wr64 (by omega) (by omega),show (k:Int)+1=((k+1:Nat):Int) from rfl,ih (k+1) n _ ha2 (by omega) (by simp;omega) (by omega)]
    congr 3
    simp only [List.map_append,wr8,List.map_cons,List.map_nil,List.append_assoc,List.cons_append,List.nil_append]
    rw [Int.emod_eq_of_lt ha3.1 (by omega)]
theorem enc_l1 (f:GFrame) (hf:FOk f) (fu:Nat) (hfu:40≤fu) : ∀ (ra:List GOp) (k n:Nat) (l:List Byt),f.ops.drop k=ra→ra.length<n→l.length+8*ra.length≤70000→k≤f.ops.length →
    encode_l1 fu f n l (k:Int)=some (strOfNums (l.map Byt.val++(ra.flatMap opBytes++([(f.deps.length:Int)]++(f.deps++([(f.at_.length:Int)]++(f.at_.zip f.vals).flatMap valBytes))))),0):=by
  intro ra
  induction ra with
  | nil =>
    intro k n l ha hn hl hk
    obtain ⟨n,rfl⟩ : ∃ m,n=m+1:=⟨n-1,by simp at hn;omega⟩
    have:f.ops.length≤k:=by have:=congrArg List.length ha;simp at this;omega
    have h4:=hf.deps
    simp only [List.length_nil] at hl
    rw [encode_l1,bif_f (dec_f (by omega)),app_ok (by simp [Rep.bytes];omega),some_bind,show (0:Int)=((0:Nat):Int) from rfl,enc_l2 f hf fu hfu f.deps 0 fu _ rfl (by omega) (by simp;omega) (by omega)]
    congr 3
    simp only [List.map_append,wr8,List.map_cons,List.map_nil,List.append_assoc,List.nil_append,List.flatMap_nil]
    rw [Int.emod_eq_of_lt (by omega) (by omega)]
  | cons a t ih =>
    intro k n l ha hn hl hk
    obtain ⟨n,rfl⟩ : ∃ m,n=m+1:=⟨n-1,by simp at hn;omega⟩
    have hk2:k<f.ops.length:=by have:=congrArg List.length ha;simp at this;omega
    have hga:f.ops[k]? = some a:=by have:=congrArg (fun x:List GOp=>x[0]?) ha;simpa using this
    have ha2:f.ops.drop (k+1)=t:=by rw [← List.tail_drop,ha];rfl
    obtain ⟨b1,b2,b3,b4,b5,b6⟩:=hf.op a (List.mem_of_getElem? hga)
    have h4:=hf.ops
    simp only [List.length_cons] at hl hn
    rw [encode_l1,bif_t (dec_t (by omega)),idx_nat,hga,some_bind,some_bind,app_ok (by simp [Rep.bytes];omega),some_bind,numberD_eq (by omega) (by simp;omega) b5 b6,some_bind,
      wr64 (by omega) (by omega),show (k:Int)+1=((k+1:Nat):Int) from rfl,ih (k+1) n _ ha2 (by omega) (by simp [sixZ_len];omega) (by omega)]
    congr 3
    simp only [List.map_append,byts,wr8,List.flatMap_cons,opBytes,List.map_cons,List.map_nil,List.append_assoc,List.cons_append,List.nil_append]
    rw [Int.emod_eq_of_lt b1 b2,Int.emod_eq_of_lt b3 b4]
theorem encodeD_ok {f:GFrame} (hf:FOk f) (h0:frameZ f=0) {fu:Nat} (hfu:40≤fu):encodeD fu f=some (strOfNums (encZ f),0):=by
  unfold encodeD
  have h4:=hf.ops
  obtain ⟨b1,b2,b3,b4,b5,b6⟩:=hf.head
  rw [some_bind,h0,bif_f (by decide),show (0:Int)=((0:Nat):Int) from rfl,enc_l1 f hf fu hfu f.ops 0 fu _ rfl (by omega) (by simp;omega) (by omega)]
  congr 3
  simp only [encZ,wr8,List.map_cons,List.map_nil]
  rw [Int.emod_eq_of_lt b1 b2,Int.emod_eq_of_lt b3 b4,Int.emod_eq_of_lt b5 b6,Int.emod_eq_of_lt (by omega) (by omega)]
theorem encodeD_no {f:GFrame} (h0:frameZ f≠0) {fu:Nat}:encodeD fu f=some (strOfNums [],frameZ f):=by
  unfold encodeD
  rw [some_bind,bif_t (by simpa using h0)]
  rfl
end Go.Proofs.Yteilffoclpgijaa
namespace Go.Proofs.Yteilffoclpgijaa
open Go.RowKit
open Rep (rep)
theorem rising_ge {l:List Int} (h:risingZ l=true) : ∀ i,i<l.length→(i:Int)≤l.getD i 0∧l.getD i 0<32:=by
  unfold risingZ at h
  rw [allTo_iff] at h
  intro i
  induction i with
  | zero =>
    intro hi
    have:=h 0 hi
    unfold riseAt at this
    simp only [Bool.and_eq_true,decide_eq_true_eq] at this
    exact ⟨by have:=this.1.1;simpa using this,this.1.2⟩
  | succ i ih =>
    intro hi
    have h1:=ih (by omega)
    have:=h (i+1) hi
    unfold riseAt at this
    simp only [Bool.and_eq_true,decide_eq_true_eq,Bool.or_eq_true,beq_iff_eq,Nat.add_sub_cancel] at this
    refine ⟨?_,this.1.2⟩
    rcases this.2 with h2 | h2
    · omega
    · push_cast
      omega
theorem rising_len {l:List Int} (h:risingZ l=true):l.length≤32:=by
  rcases Nat.lt_or_ge 32 l.length with h1 | h1
  · have:=rising_ge h 32 h1
    omega
  · exact h1
theorem rising_mem {l:List Int} (h:risingZ l=true) : ∀ n∈l,0≤n∧n<32:=by
  intro n hn
  obtain ⟨i,hi,rfl⟩:=List.getElem_of_mem hn
  have:=rising_ge h i hi
  rw [List.getD_eq_getElem?_getD,List.getElem?_eq_getElem hi] at this
  simp only [Option.getD_some] at this
  omega
theorem goodOps_len {l:List GOp} (h:goodOpsZ l=true):0<l.length∧l.length≤4:=by
  unfold goodOpsZ at h
  simp only [Bool.and_eq_true,decide_eq_true_eq] at h
  omega
theorem goodOps_mem {l:List GOp} (h:goodOpsZ l=true) : ∀ o∈l,1≤o.kind∧o.kind≤3∧0≤o.key∧o.key<8 ∧ -1099511627776≤o.n∧o.n≤1099511627776:=by
  intro o ho
  unfold goodOpsZ at h
  simp only [Bool.and_eq_true] at h
  have h1:=(allTo_iff _ _).1 h.1
  obtain ⟨i,hi,rfl⟩:=List.getElem_of_mem ho
  have:=h1 i hi
  unfold opAt at this
  rw [List.getD_eq_getElem?_getD,List.getElem?_eq_getElem hi] at this
  simp only [Option.getD_some,Bool.and_eq_true] at this
  have:=this.1
  unfold goodOp at this
  simp only [decide_eq_true_eq] at this
  omega
theorem FOk_of {f:GFrame} (h:frameZ f=0):FOk f:=by
  unfold frameZ at h
  split at h
  · cases h
  · rename_i hk
    split at h
    · cases h
    · rename_i hn
      split at h
      · rename_i hp
        simp only [Bool.and_eq_true] at hp
        obtain ⟨h1,h2,h3⟩:=hp
        have ho:f.ops.length≤4 ∧ ∀ o∈f.ops,0≤o.kind∧o.kind<256∧0≤o.key∧o.key<256 ∧ -1099511627776≤o.n∧o.n≤1099511627776:=by
          unfold opsPart at h1
          split at h1
          · refine ⟨(goodOps_len h1).2,fun o ho => ?_⟩
            have:=goodOps_mem h1 o ho
            omega
          · have:f.ops=[]:=List.length_eq_zero_iff.1 (by simpa using h1)
            rw [this]
            simp
        have hd:f.deps.length≤32 ∧ ∀ n∈f.deps,0≤n∧n<32:=by
          unfold depsPart at h2
          split at h2
          · simp only [Bool.and_eq_true] at h2
            exact ⟨rising_len h2.1,rising_mem h2.1⟩
          · have:f.deps=[]:=List.length_eq_zero_iff.1 (by simpa using h2)
            rw [this]
            simp
        unfold atPart at h3
        simp only [Bool.and_eq_true,beq_iff_eq] at h3
        obtain ⟨_,h4,h5,h6⟩:=h3
        rw [allTo_iff] at h5 h6
        have ha : ∀ i,i<f.at_.length→(i:Int)≤f.at_.getD i 0∧f.at_.getD i 0<4:=by
          intro i
          induction i with
          | zero =>
            intro hi
            have:=h5 0 hi
            unfold atAt at this
            simp only [Bool.and_eq_true,decide_eq_true_eq] at this
            exact ⟨by have:=this.1.1;simpa using this,this.1.2⟩
          | succ i ih =>
            intro hi
            have e1:=ih (by omega)
            have:=h5 (i+1) hi
            unfold atAt at this
            simp only [Bool.and_eq_true,decide_eq_true_eq,Bool.or_eq_true,beq_iff_eq,Nat.add_sub_cancel] at this
            refine ⟨?_,this.1.2⟩
            rcases this.2 with e2 | e2
            · omega
            · push_cast
              omega
        have hl:f.at_.length≤4:=by
          rcases Nat.lt_or_ge 4 f.at_.length with e1 | e1
          · have:=ha 4 e1;omega
          · exact e1
        refine ⟨ho.1,ho.2,hd.1,hd.2,hl,fun n hn => ?_,h4.symm,fun v hv => ?_,by omega⟩
        · obtain ⟨i,hi,rfl⟩:=List.getElem_of_mem hn
          have:=ha i hi
          rw [List.getD_eq_getElem?_getD,List.getElem?_eq_getElem hi] at this
          simp only [Option.getD_some] at this
          omega
        · obtain ⟨i,hi,rfl⟩:=List.getElem_of_mem hv
          have:=h6 i hi
          unfold valAt at this
          rw [List.getD_eq_getElem?_getD,List.getElem?_eq_getElem hi] at this
          simpa using this
      · cases h
def encP (f:GFrame):ByteArray × Int:=if frameZ f=0 then (strOfNums (encZ f),0) else (strOfNums [],frameZ f)
theorem encodeD_eq (f:GFrame) {fu:Nat} (hfu:40≤fu):encodeD fu f=some (encP f):=by
  unfold encP
  by_cases h:frameZ f=0
  · rw [if_pos h,encodeD_ok (FOk_of h) h hfu]
  · rw [if_neg h,encodeD_no h]
end Go.Proofs.Yteilffoclpgijaa
namespace Go.Proofs.Yteilffoclpgijaa
open Go.RowKit
open Rep (rep)
def byL (s:ByteArray):List Int:=s.data.toList.map fun b=>(b.toNat:Int)
theorem byL_len (s:ByteArray):(byL s).length=s.size:=by
  unfold byL
  rw [List.length_map]
  rfl
theorem byL_range {s:ByteArray} {c:Int} (h:c∈byL s):0≤c∧c<256:=by
  unfold byL at h
  obtain ⟨b,_,rfl⟩:=List.mem_map.1 h
  have:=b.toNat_lt
  omega
theorem byL_idx (s:ByteArray) (k:Nat):idxS s (k:Int)=(byL s)[k]? := by
  unfold idxS byL
  rw [if_pos (Int.natCast_nonneg k),List.getElem?_map]
  have e:((k:Int)).toNat=k:=rfl
  rw [e]
  by_cases hk:k<s.size
  · have h2:k<s.data.toList.length:=hk
    rw [List.getElem?_eq_getElem h2]
    have:s[k]? = some s[k]:=getElem?_pos s k hk
    rw [this]
    rfl
  · have h2:s.data.toList.length≤k:=by have:s.data.toList.length=s.size:=rfl;omega
    rw [List.getElem?_eq_none h2]
    have:s[k]? = none:=getElem?_neg s k hk
    rw [this]
theorem byL_cut {s:ByteArray} {k:Nat} (hk:k≤s.size) : ∃ s',cutB s (some (k:Int)) none=some s'∧byL s'=(byL s).drop k:=by
  unfold cutB cutOk
  simp only [Option.getD_some,Option.getD_none]
  rw [if_pos (by omega)]
  refine ⟨_,rfl,?_⟩
  unfold byL
  rw [Go.Lib.extract_data,← List.map_drop]
  congr 1
  have e:((s.size:Int)).toNat=s.size:=rfl
  have e2:((k:Int)).toNat=k:=rfl
  simp only [e,e2]
  refine List.take_of_length_le ?_
  have:s.data.toList.length=s.size:=rfl
  rw [List.length_drop]
  omega
theorem byL_empty {s:ByteArray}:(s.toList==(⟨#[]⟩:ByteArray).toList)=(byL s).isEmpty:=by
  rw [ByteArray.toList_eq,ByteArray.toList_eq,Bool.eq_iff_iff]
  unfold byL
  simp
def sixV (a b c d e f:Int):Int:=((((a*256+b)*256+c)*256+d)*256+e)*256+f-140737488355328
def pOps:Nat→List Int→Option (List GOp × List Int)
  | 0,l=>some ([],l)
  | n+1,k::y::a::b::c::d::e::f::t=>(pOps n t).map fun p=>(⟨k,y,sixV a b c d e f⟩::p.1,p.2)
  | _+1,_=>none
def pDeps (n:Nat) (l:List Int):Option (List Int × List Int):=if n≤l.length then some (l.take n,l.drop n) else none
def pAts:Nat→List Int→Option (List Int × List Int × List Int)
  | 0,l=>some ([],[],l)
  | n+1,k::a::b::c::d::e::f::t=>(pAts n t).map fun p=>(k::p.1,sixV a b c d e f::p.2.1,p.2.2)
  | _+1,_=>none
def pTail (kd nd id:Int) (os:List GOp) (ds:List Int):List Int→Option (GFrame × List Int)
  | k::u=>(pAts k.toNat u).map fun z=>(⟨kd,nd,id,os,ds,z.1,z.2.1⟩,z.2.2)
  | []=>none
def pRest (kd nd id:Int) (os:List GOp):List Int→Option (GFrame × List Int)
  | m::r=>(pDeps m.toNat r).bind fun q=>pTail kd nd id os q.1 q.2
  | []=>none
def parseR:List Int→Option (GFrame × List Int)
  | kd::nd::id::no::t=>(pOps no.toNat t).bind fun p=>pRest kd nd id p.1 p.2
  | _=>none
def noF:GFrame:=⟨0,0,0,[],[],[],[]⟩
def finZ:Option (GFrame × List Int)→GFrame × Int
  | some (f,[])=>bif frameZ f==0 then (f,0) else (noF,1)
  | _=>(noF,1)
def decZ (l:List Int):GFrame × Int:=finZ (parseR l)
structure Rd8 (x:GReader) (l:List Int):Prop where
  s:byL x.s=l
  ok:x.bad=false
  small:x.s.size≤140737488351232
def Bad8 (x:GReader):Prop:=x.bad=true∧x.s.size≤140737488351232
theorem rByte_go {fu:Nat} {x:GReader} {c:Int} {t:List Int} (h:Rd8 x (c::t)) : ∃ x',rByteD fu x=some (c,x')∧Rd8 x' t:=by
  have hlen:=byL_len x.s
  rw [h.s,List.length_cons] at hlen
  obtain ⟨s',h1,h2⟩:=byL_cut (s:=x.s) (k:=1) (by omega)
  have h1:cutB x.s (some 1) none=some s':=h1
  have hs':=byL_len s'
  rw [h2,List.length_drop,byL_len] at hs'
  have hsm:=h.small
  have hi:idxS x.s 0=some c:=by
    have:=byL_idx x.s 0
    rw [h.s] at this
    exact this
  have hc:=byL_range (s:=x.s) (c:=c) (by rw [h.s];exact List.mem_cons_self)
  refine ⟨{ x with s:=s' },?_,⟨by rw [h2,h.s];rfl,h.ok,by show s'.size≤_;omega⟩⟩
  unfold rByteD
  rw [byL_empty,h.s,bif_f (by rfl),hi,some_bind,h1,some_bind,chkS_ok (by omega),some_bind,some_bind,wr64 (by omega) (by omega)]
theorem rByte_end {fu:Nat} {x:GReader} (h:Rd8 x []) : ∃ x',rByteD fu x=some (0,x')∧Bad8 x':=by
  refine ⟨{ x with bad:=true },?_,rfl,h.small⟩
  unfold rByteD
  rw [byL_empty,h.s,bif_t (by rfl),some_bind]
theorem rByte_bad {fu:Nat} {x:GReader} (h:Bad8 x) : ∃ v x',rByteD fu x=some (v,x')∧Bad8 x':=by
  cases hl:byL x.s with
  | nil =>
    refine ⟨0,{ x with bad:=true },?_,rfl,h.2⟩
    unfold rByteD
    rw [byL_empty,hl,bif_t (by rfl),some_bind]
  | cons c t =>
    have hlen:=byL_len x.s
    rw [hl,List.length_cons] at hlen
    obtain ⟨s',h1,h2⟩:=byL_cut (s:=x.s) (k:=1) (by omega)
    have h1:cutB x.s (some 1) none=some s':=h1
    have hs':=byL_len s'
    rw [h2,List.length_drop,byL_len] at hs'
    have hsm:=h.2
    have hi:idxS x.s 0=some c:=by
      have:=byL_idx x.s 0
      rw [hl] at this
      exact this
    refine ⟨IntKind.wrap .i64 c,{ x with s:=s' },?_,h.1,by show s'.size≤_;omega⟩
    unfold rByteD
    rw [byL_empty,hl,bif_f (by rfl),hi,some_bind,h1,some_bind,chkS_ok (by omega),some_bind,some_bind]
theorem orI_byte {y c:Int} (h0:0≤y) (h1:y<1099511627776) (hc0:0≤c) (hc1:c<256):orI .i64 (IntKind.wrap .i64 (y*2 ^ (min (Int.toNat 8) (IntKind.bits .i64)))) c=y*256+c:=by
  have e:(2:Int) ^ (min (Int.toNat 8) (IntKind.bits .i64))=256:=by decide
  rw [e,wr64 (by omega) (by omega)]
  obtain ⟨a,rfl⟩:=Int.eq_ofNat_of_zero_le h0
  obtain ⟨b,rfl⟩:=Int.eq_ofNat_of_zero_le hc0
  exact or_bytes a b (by omega) (by omega)
theorem rNumber_l1_bad {fu:Nat} : ∀ (n m:Nat) (x:GReader) (y:Int) (k:Int),(6-k).toNat=m→0≤k→m<n→Bad8 x → ∃ v x',rNumber_l1 fu n x y k=some (v,x')∧Bad8 x'
  | 0,m,x,y,k,_,_,h,_=>absurd h (by omega)
  | n+1,m,x,y,k,hm,hk,hn,hx=>by
    rw [rNumber_l1]
    by_cases h:k<6
    · obtain ⟨v,x',h1,h2⟩:=rByte_bad (fu:=fu) hx
      rw [bif_t (dec_t h),h1,some_bind,wr64 (x:=k+1) (by omega) (by omega)]
      exact rNumber_l1_bad n (m-1) x' _ (k+1) (by omega) (by omega) (by omega) h2
    · rw [bif_f (dec_f h)]
      exact ⟨_,x,rfl,hx⟩
theorem rNumberD_bad {fu:Nat} (hf:8≤fu) {x:GReader} (hx:Bad8 x) : ∃ v x',rNumberD fu x=some (v,x')∧Bad8 x':=rNumber_l1_bad fu 6 x 0 0 rfl (by omega) (by omega) hx
theorem rNumber_step {fu n:Nat} {x:GReader} {c:Int} {t:List Int} (h:Rd8 x (c::t)) {y k:Int} (hk:k<6) (hk0:0≤k) (h0:0≤y) (h1:y<1099511627776) : ∃ x',rNumber_l1 fu (n+1) x y k=rNumber_l1 fu n x' (y*256+c) (k+1)∧Rd8 x' t:=by
  obtain ⟨x',h2,h3⟩:=rByte_go (fu:=fu) h
  have hc:=byL_range (s:=x.s) (c:=c) (by rw [h.s];exact List.mem_cons_self)
  refine ⟨x',?_,h3⟩
  rw [rNumber_l1,bif_t (dec_t hk),h2,some_bind,orI_byte h0 h1 hc.1 hc.2,wr64 (x:=k+1) (by omega) (by omega)]
theorem rNumberD_go {fu:Nat} (hf:8≤fu) {x:GReader} {a b c d e f:Int} {t:List Int} (h:Rd8 x (a::b::c::d::e::f::t)) : ∃ x',rNumberD fu x=some (sixV a b c d e f,x')∧Rd8 x' t:=by
  have hr : ∀ z∈[a,b,c,d,e,f],0≤z∧z<256:=fun z hz=>byL_range (s:=x.s) (by rw [h.s];simp at hz ⊢;rcases hz with rfl | rfl | rfl | rfl | rfl | rfl<;>simp)
  have ha:=hr a (by simp)
  have hb:=hr b (by simp)
  have hc:=hr c (by simp)
  have hd:=hr d (by simp)
  have he:=hr e (by simp)
  have hff:=hr f (by simp)
  obtain ⟨n,rfl⟩ : ∃ n,fu=n+7:=⟨fu-7,by omega⟩
  obtain ⟨x1,e1,r1⟩:=rNumber_step (fu:=n+7) (n:=n+6) h (y:=0) (k:=0) (by omega) (by omega) (by omega) (by omega)
  obtain ⟨x2,e2,r2⟩:=rNumber_step (fu:=n+7) (n:=n+5) r1 (y:=0*256+a) (k:=0+1) (by omega) (by omega) (by omega) (by omega)
  obtain ⟨x3,e3,r3⟩:=rNumber_step (fu:=n+7) (n:=n+4) r2 (y:=(0*256+a)*256+b) (k:=0+1+1) (by omega) (by omega) (by omega) (by omega)
  obtain ⟨x4,e4,r4⟩:=rNumber_step (fu:=n+7) (n:=n+3) r3 (y:=((0*256+a)*256+b)*256+c) (k:=0+1+1+1) (by omega) (by omega) (by omega) (by omega)
  obtain ⟨x5,e5,r5⟩:=rNumber_step (fu:=n+7) (n:=n+2) r4 (y:=(((0*256+a)*256+b)*256+c)*256+d) (k:=0+1+1+1+1) (by omega) (by omega) (by omega) (by omega)
  obtain ⟨x6,e6,r6⟩:=rNumber_step (fu:=n+7) (n:=n+1) r5 (y:=((((0*256+a)*256+b)*256+c)*256+d)*256+e) (k:=0+1+1+1+1+1) (by omega) (by omega) (by omega) (by omega)
  refine ⟨x6,?_,r6⟩
  unfold rNumberD
  rw [e1,e2,e3,e4,e5,e6,rNumber_l1,bif_f (by rfl),wr64 (by omega) (by omega)]
  unfold sixV
  rw [Int.zero_mul,Int.zero_add]
theorem rNumber_l1_short {fu:Nat} : ∀ (t:List Int) (n:Nat) (x:GReader) (y k:Int),Rd8 x t→(t.length:Int)+k<6→0≤k→(6-k).toNat<n → ∃ v x',rNumber_l1 fu n x y k=some (v,x')∧Bad8 x'
  | _,0,x,y,k,_,_,_,h=>absurd h (by omega)
  | [],n+1,x,y,k,hx,hs,hk,hn=>by
    obtain ⟨x',h1,h2⟩:=rByte_end (fu:=fu) hx
    simp at hs
    rw [rNumber_l1,bif_t (dec_t hs),h1,some_bind,wr64 (x:=k+1) (by omega) (by omega)]
    exact rNumber_l1_bad n (6-(k+1)).toNat x' _ (k+1) rfl (by omega) (by omega) h2
  | c::t,n+1,x,y,k,hx,hs,hk,hn=>by
    obtain ⟨x',h1,h2⟩:=rByte_go (fu:=fu) hx
    simp at hs
    rw [rNumber_l1,bif_t (dec_t (by omega)),h1,some_bind,wr64 (x:=k+1) (by omega) (by omega)]
    exact rNumber_l1_short t n x' _ (k+1) h2 (by omega) (by omega) (by omega)
theorem rNumberD_short {fu:Nat} (hf:8≤fu) {x:GReader} {t:List Int} (h:Rd8 x t) (hs:t.length<6) : ∃ v x',rNumberD fu x=some (v,x')∧Bad8 x':=rNumber_l1_short t fu x 0 0 h (by omega) (by omega) (by omega)
section
variable {fu:Nat}
theorem dec_l3_bad {n:Nat} {x:GReader} {d:GFrame} {y:Int} (hx:Bad8 x):decode_l3 fu (n+1) x d y=some (noF,1):=by
  rw [decode_l3]
  unfold decode_j6 decode_j8
  rw [hx.1]
  cases decide (y>0)<;>rfl
theorem dec_l2_bad {n:Nat} (hf:8≤fu) {x:GReader} {d:GFrame} {y:Int} (hx:Bad8 x):decode_l2 fu (n+1) x d y=some (noF,1):=by
  obtain ⟨v,x',h1,h2⟩:=rByte_bad (fu:=fu) hx
  obtain ⟨m,rfl⟩ : ∃ m,fu=m+1:=⟨fu-1,by omega⟩
  have h3:=dec_l3_bad (fu:=m+1) (n:=m) (d:=d) (y:=v) h2
  rw [decode_l2]
  unfold decode_j4
  rw [hx.1]
  cases decide (y>0)
  · simp only [cond_false]
    rw [h1,some_bind];exact h3
  · simp only [cond_true,Bool.not_true,cond_false]
    rw [h1,some_bind];exact h3
theorem dec_l1_bad {n:Nat} (hf:8≤fu) {x:GReader} {d:GFrame} {y:Int} (hx:Bad8 x):decode_l1 fu (n+1) x d y=some (noF,1):=by
  obtain ⟨v,x',h1,h2⟩:=rByte_bad (fu:=fu) hx
  obtain ⟨m,rfl⟩ : ∃ m,fu=m+1:=⟨fu-1,by omega⟩
  have h3:=dec_l2_bad (fu:=m+1) (n:=m) hf (d:=d) (y:=v) h2
  rw [decode_l1]
  unfold decode_j2
  rw [hx.1]
  cases decide (y>0)
  · simp only [cond_false]
    rw [h1,some_bind];exact h3
  · simp only [cond_true,Bool.not_true,cond_false]
    rw [h1,some_bind];exact h3
theorem dec_end {x:GReader} {l:List Int} (hx:Rd8 x l) {n:Nat} {d:GFrame} {y:Int} (hy : ¬ y>0):decode_l3 fu (n+1) x d y=some (finZ (some (d,l))):=by
  rw [decode_l3,bif_f (dec_f hy)]
  unfold decode_j6 decode_j8 decode_j7
  rw [bif_f rfl,hx.ok,bif_f rfl,byL_empty,hx.s]
  cases l with
  | nil =>
    rw [bif_f (by rfl),some_bind]
    have e0:finZ (some (d,[]))=bif frameZ d==0 then (d,0) else (noF,1):=rfl
    rw [e0]
    by_cases h:frameZ d=0
    · rw [h];rfl
    · have e1:(frameZ d != 0)=true:=by simp [h]
      have e2:(frameZ d==0)=false:=by simp [h]
      rw [e1,e2];rfl
  | cons c t=>rfl
theorem dec_l3_eq (hf:12≤fu) : ∀ (m n:Nat) (x:GReader) (l:List Int) (d:GFrame),m<n→m<256→d.at_.length+m≤300→d.vals.length+m≤300→Rd8 x l →
    decode_l3 fu n x d m=some (finZ ((pAts m l).map fun z=>({ d with at_:=d.at_++z.1,vals:=d.vals++z.2.1 },z.2.2)))
  | m,0,_,_,_,h,_,_,_,_=>absurd h (by omega)
  | 0,n+1,x,l,d,_,_,_,_,hx=>by
    rw [dec_end hx (by omega),pAts]
    have e:({ d with at_:=d.at_++[],vals:=d.vals++[] }:GFrame)=d:=by simp
    simp only [Option.map_some]
    rw [e]
  | m+1,n+1,x,l,d,hn,hm,ha,hv,hx=>by
    have hy:(((m+1:Nat):Int))>0:=by omega
    have e1:IntKind.wrap .i64 (((m+1:Nat):Int)-1)=(m:Int):=by rw [wr64 (by omega) (by omega)];omega
    rw [decode_l3,bif_t (dec_t hy)]
    unfold decode_j6 decode_j5
    rw [hx.ok,bif_t (c := !false) rfl]
    cases l with
    | nil =>
      obtain ⟨x',h1,h2⟩:=rByte_end (fu:=fu) hx
      obtain ⟨v,x2,h3,h4⟩:=rNumberD_bad (fu:=fu) (by omega) h2
      simp only [h1,h3,some_bind]
      rw [app_ok (by have:Rep.bytes Int=8:=rfl;rw [this];simp;omega),some_bind,app_ok (by have:Rep.bytes Int=8:=rfl;rw [this];simp;omega),some_bind,e1]
      obtain ⟨n,rfl⟩ : ∃ q,n=q+1:=⟨n-1,by omega⟩
      rw [dec_l3_bad h4]
      rfl
    | cons k t =>
      obtain ⟨x',h1,h2⟩:=rByte_go (fu:=fu) hx
      by_cases h6:t.length<6
      · obtain ⟨v,x2,h3,h4⟩:=rNumberD_short (fu:=fu) (by omega) h2 h6
        simp only [h1,h3,some_bind]
        rw [app_ok (by have:Rep.bytes Int=8:=rfl;rw [this];simp;omega),some_bind,app_ok (by have:Rep.bytes Int=8:=rfl;rw [this];simp;omega),some_bind,e1]
        obtain ⟨n,rfl⟩ : ∃ q,n=q+1:=⟨n-1,by omega⟩
        rw [dec_l3_bad h4]
        have:pAts (m+1) (k::t)=none:=by
          match t,h6 with
          | [],_=>rfl
          | [_],_=>rfl
          | [_,_],_=>rfl
          | [_,_,_],_=>rfl
          | [_,_,_,_],_=>rfl
          | [_,_,_,_,_],_=>rfl
          | _::_::_::_::_::_::_,h=>simp at h;omega
        rw [this]
        rfl
      · obtain ⟨a,b,c,e,f,g,u,rfl⟩ : ∃ a b c e f g u,t=a::b::c::e::f::g::u:=by
          match t,h6 with
          | [],h=>simp at h
          | [_],h=>simp at h
          | [_,_],h=>simp at h
          | [_,_,_],h=>simp at h
          | [_,_,_,_],h=>simp at h
          | [_,_,_,_,_],h=>simp at h
          | a::b::c::e::f::g::u,_=>exact ⟨a,b,c,e,f,g,u,rfl⟩
        obtain ⟨x2,h3,h4⟩:=rNumberD_go (fu:=fu) (by omega) h2
        simp only [h1,h3,some_bind]
        rw [app_ok (by have:Rep.bytes Int=8:=rfl;rw [this];simp;omega),some_bind,app_ok (by have:Rep.bytes Int=8:=rfl;rw [this];simp;omega),some_bind,e1]
        rw [dec_l3_eq hf m n x2 u { d with at_:=d.at_++[k],vals:=d.vals++[sixV a b c e f g] } (by omega) (by omega) (by simp;omega) (by simp;omega) h4,pAts]
        cases hp:pAts m u with
        | none=>rfl
        | some p=>simp [List.append_assoc]
theorem dec_l2_eq (hf:300≤fu) : ∀ (m n:Nat) (x:GReader) (l:List Int) (d:GFrame),m<n→m<256→d.deps.length+m≤300→d.at_=[]→d.vals=[]→Rd8 x l→(∀ c∈l,0≤c∧c<256) →
    decode_l2 fu n x d m=some (finZ ((pDeps m l).bind fun q=>pTail d.kind d.node d.id d.ops (d.deps++q.1) q.2))
  | m,0,_,_,_,h,_,_,_,_,_,_=>absurd h (by omega)
  | 0,n+1,x,l,d,_,_,_,ha,hv,hx,hr=>by
    rw [decode_l2,bif_f (dec_f (by omega))]
    unfold decode_j4
    rw [bif_f rfl]
    cases l with
    | nil =>
      obtain ⟨x',h1,h2⟩:=rByte_end (fu:=fu) hx
      obtain ⟨q,rfl⟩ : ∃ q,fu=q+1:=⟨fu-1,by omega⟩
      rw [h1,some_bind]
      simp only
      rw [dec_l3_bad h2]
      rfl
    | cons k u =>
      obtain ⟨x',h1,h2⟩:=rByte_go (fu:=fu) hx
      have hk:=hr k List.mem_cons_self
      rw [h1,some_bind]
      simp only
      have e:k=((k.toNat:Nat):Int):=by omega
      have h3:=dec_l3_eq (fu:=fu) (by omega) k.toNat fu x' u d (by omega) (by omega) (by rw [ha];simp;omega) (by rw [hv];simp;omega) h2
      rw [← e] at h3
      rw [h3,ha,hv]
      simp [pDeps,pTail]
  | m+1,n+1,x,l,d,hn,hm,hd,ha,hv,hx,hr=>by
    have hy:(((m+1:Nat):Int))>0:=by omega
    have e1:IntKind.wrap .i64 (((m+1:Nat):Int)-1)=(m:Int):=by rw [wr64 (by omega) (by omega)];omega
    rw [decode_l2,bif_t (dec_t hy)]
    unfold decode_j4 decode_j3
    rw [hx.ok,bif_t (c := !false) rfl]
    cases l with
    | nil =>
      obtain ⟨x',h1,h2⟩:=rByte_end (fu:=fu) hx
      simp only [h1,some_bind]
      rw [app_ok (by have:Rep.bytes Int=8:=rfl;rw [this];simp;omega),some_bind,e1]
      obtain ⟨n,rfl⟩ : ∃ q,n=q+1:=⟨n-1,by omega⟩
      rw [dec_l2_bad (by omega) h2]
      rfl
    | cons k t =>
      obtain ⟨x',h1,h2⟩:=rByte_go (fu:=fu) hx
      simp only [h1,some_bind]
      rw [app_ok (by have:Rep.bytes Int=8:=rfl;rw [this];simp;omega),some_bind,e1]
      rw [dec_l2_eq hf m n x' t { d with deps:=d.deps++[k] } (by omega) (by omega) (by simp;omega) ha hv h2 (fun c hc=>hr c (List.mem_cons_of_mem _ hc))]
      unfold pDeps
      by_cases hle:m≤t.length
      · rw [if_pos hle,if_pos (show m+1≤(k::t).length by simp;exact hle)]
        simp only [List.take_succ_cons,List.drop_succ_cons,List.append_assoc,List.cons_append,List.nil_append,Option.bind_some]
      · rw [if_neg hle,if_neg (show ¬ m+1≤(k::t).length by simp;omega)]
        rfl
theorem pOps_short {m:Nat} {t:List Int} (h:t.length<8):pOps (m+1) t=none:=by
  match t,h with
  | [],_=>rfl
  | [_],_=>rfl
  | [_,_],_=>rfl
  | [_,_,_],_=>rfl
  | [_,_,_,_],_=>rfl
  | [_,_,_,_,_],_=>rfl
  | [_,_,_,_,_,_],_=>rfl
  | [_,_,_,_,_,_,_],_=>rfl
  | _::_::_::_::_::_::_::_::_,h=>simp at h;omega
theorem eight_of {t:List Int} (h : ¬ t.length<8) : ∃ k y a b c d e f u,t=k::y::a::b::c::d::e::f::u:=by
  match t,h with
  | [],h=>simp at h
  | [_],h=>simp at h
  | [_,_],h=>simp at h
  | [_,_,_],h=>simp at h
  | [_,_,_,_],h=>simp at h
  | [_,_,_,_,_],h=>simp at h
  | [_,_,_,_,_,_],h=>simp at h
  | [_,_,_,_,_,_,_],h=>simp at h
  | k::y::a::b::c::d::e::f::u,_=>exact ⟨k,y,a,b,c,d,e,f,u,rfl⟩
theorem dec_l1_eq (hf:300≤fu) : ∀ (m n:Nat) (x:GReader) (l:List Int) (d:GFrame),m<n→m<256→d.ops.length+m≤300→d.deps=[]→d.at_=[]→d.vals=[]→Rd8 x l→(∀ c∈l,0≤c∧c<256) →
    decode_l1 fu n x d m=some (finZ ((pOps m l).bind fun p=>pRest d.kind d.node d.id (d.ops++p.1) p.2))
  | m,0,_,_,_,h,_,_,_,_,_,_,_=>absurd h (by omega)
  | 0,n+1,x,l,d,_,_,_,hdd,ha,hv,hx,hr=>by
    rw [decode_l1,bif_f (dec_f (by omega))]
    unfold decode_j2
    rw [bif_f rfl,pOps]
    simp only [Option.bind_some,List.append_nil]
    cases l with
    | nil =>
      obtain ⟨x',h1,h2⟩:=rByte_end (fu:=fu) hx
      obtain ⟨q,rfl⟩ : ∃ q,fu=q+1:=⟨fu-1,by omega⟩
      rw [h1,some_bind]
      simp only
      rw [dec_l2_bad (by omega) h2]
      rfl
    | cons k u =>
      obtain ⟨x',h1,h2⟩:=rByte_go (fu:=fu) hx
      have hk:=hr k List.mem_cons_self
      rw [h1,some_bind]
      simp only
      have e:k=((k.toNat:Nat):Int):=by omega
      have h3:=dec_l2_eq (fu:=fu) hf k.toNat fu x' u d (by omega) (by omega) (by rw [hdd];simp;omega) ha hv h2 (fun c hc=>hr c (List.mem_cons_of_mem _ hc))
      rw [← e] at h3
      rw [h3,hdd]
      simp [pRest]
  | m+1,n+1,x,l,d,hn,hm,ho,hdd,ha,hv,hx,hr=>by
    have hy:(((m+1:Nat):Int))>0:=by omega
    have e1:IntKind.wrap .i64 (((m+1:Nat):Int)-1)=(m:Int):=by rw [wr64 (by omega) (by omega)];omega
    rw [decode_l1,bif_t (dec_t hy)]
    unfold decode_j2 decode_j1
    rw [hx.ok,bif_t (c := !false) rfl]
    by_cases h8:l.length<8
    · rw [pOps_short h8]
      have hbad : ∃ v1 x1 v2 x2 v3 x3,rByteD fu x=some (v1,x1)∧rByteD fu x1=some (v2,x2)∧rNumberD fu x2=some (v3,x3)∧Bad8 x3:=by
        cases l with
        | nil =>
          obtain ⟨x1,h1,r1⟩:=rByte_end (fu:=fu) hx
          obtain ⟨v2,x2,h2,r2⟩:=rByte_bad (fu:=fu) r1
          obtain ⟨v3,x3,h3,r3⟩:=rNumberD_bad (fu:=fu) (by omega) r2
          exact ⟨_,x1,v2,x2,v3,x3,h1,h2,h3,r3⟩
        | cons c t =>
          obtain ⟨x1,h1,r1⟩:=rByte_go (fu:=fu) hx
          cases t with
          | nil =>
            obtain ⟨x2,h2,r2⟩:=rByte_end (fu:=fu) r1
            obtain ⟨v3,x3,h3,r3⟩:=rNumberD_bad (fu:=fu) (by omega) r2
            exact ⟨_,x1,_,x2,v3,x3,h1,h2,h3,r3⟩
          | cons c2 u =>
            obtain ⟨x2,h2,r2⟩:=rByte_go (fu:=fu) r1
            obtain ⟨v3,x3,h3,r3⟩:=rNumberD_short (fu:=fu) (by omega) r2 (by simp at h8;omega)
            exact ⟨_,x1,_,x2,v3,x3,h1,h2,h3,r3⟩
      obtain ⟨v1,x1,v2,x2,v3,x3,h1,h2,h3,r3⟩:=hbad
      simp only [h1,h2,h3,some_bind]
      rw [app_ok (by have:Rep.bytes GOp=24:=rfl;rw [this];simp;omega),some_bind,e1]
      obtain ⟨n,rfl⟩ : ∃ q,n=q+1:=⟨n-1,by omega⟩
      rw [dec_l1_bad (by omega) r3]
      rfl
    · obtain ⟨k,y,a,b,c,dd,e,f,u,rfl⟩:=eight_of h8
      obtain ⟨x1,h1,r1⟩:=rByte_go (fu:=fu) hx
      obtain ⟨x2,h2,r2⟩:=rByte_go (fu:=fu) r1
      obtain ⟨x3,h3,r3⟩:=rNumberD_go (fu:=fu) (by omega) r2
      simp only [h1,h2,h3,some_bind]
      rw [app_ok (by have:Rep.bytes GOp=24:=rfl;rw [this];simp;omega),some_bind,e1]
      rw [dec_l1_eq hf m n x3 u { d with ops:=d.ops++[⟨k,y,sixV a b c dd e f⟩] } (by omega) (by omega) (by simp;omega) hdd ha hv r3 (fun z hz=>hr z (by simp [hz])),pOps]
      cases hp:pOps m u with
      | none=>rfl
      | some p=>simp [List.append_assoc]
theorem decodeD_eq (hf:300≤fu) {s:ByteArray} (hs:s.size≤140737488351232):decodeD fu s=some (decZ (byL s)):=by
  have hr : ∀ c∈byL s,0≤c∧c<256:=fun c hc=>byL_range hc
  have hx:Rd8 { s:=s,bad:=Zr.zd } (byL s):=⟨rfl,rfl,hs⟩
  unfold decodeD
  rw [chkS_ok hs,some_bind,some_bind]
  generalize byL s=l at hr hx
  have hbad : ∀ {x:GReader} {d:GFrame} {y:Int},Bad8 x→decode_l1 fu fu x d y=some (noF,1):=fun {x d y} h=>by
    obtain ⟨q,hq⟩ : ∃ q,fu=q+1:=⟨fu-1,by omega⟩
    have:=dec_l1_bad (fu:=fu) (n:=q) (by omega) (d:=d) (y:=y) h
    rw [← hq] at this
    exact this
  have b1 : ∀ {x:GReader},Bad8 x → ∃ v x',rByteD fu x=some (v,x')∧Bad8 x':=fun h=>rByte_bad h
  match l,hx,hr with
  | [],hx,_ =>
    obtain ⟨x1,h1,r1⟩:=rByte_end (fu:=fu) hx
    obtain ⟨v2,x2,h2,r2⟩:=b1 r1
    obtain ⟨v3,x3,h3,r3⟩:=b1 r2
    obtain ⟨v4,x4,h4,r4⟩:=b1 r3
    simp only [h1,h2,h3,h4,some_bind]
    rw [hbad r4];rfl
  | [a],hx,_ =>
    obtain ⟨x1,h1,r1⟩:=rByte_go (fu:=fu) hx
    obtain ⟨x2,h2,r2⟩:=rByte_end (fu:=fu) r1
    obtain ⟨v3,x3,h3,r3⟩:=b1 r2
    obtain ⟨v4,x4,h4,r4⟩:=b1 r3
    simp only [h1,h2,h3,h4,some_bind]
    rw [hbad r4];rfl
  | [a,b],hx,_ =>
    obtain ⟨x1,h1,r1⟩:=rByte_go (fu:=fu) hx
    obtain ⟨x2,h2,r2⟩:=rByte_go (fu:=fu) r1
    obtain ⟨x3,h3,r3⟩:=rByte_end (fu:=fu) r2
    obtain ⟨v4,x4,h4,r4⟩:=b1 r3
    simp only [h1,h2,h3,h4,some_bind]
    rw [hbad r4];rfl
  | [a,b,c],hx,_ =>
    obtain ⟨x1,h1,r1⟩:=rByte_go (fu:=fu) hx
    obtain ⟨x2,h2,r2⟩:=rByte_go (fu:=fu) r1
    obtain ⟨x3,h3,r3⟩:=rByte_go (fu:=fu) r2
    obtain ⟨x4,h4,r4⟩:=rByte_end (fu:=fu) r3
    simp only [h1,h2,h3,h4,some_bind]
    rw [hbad r4];rfl
  | a::b::c::no::t,hx,hr =>
    obtain ⟨x1,h1,r1⟩:=rByte_go (fu:=fu) hx
    obtain ⟨x2,h2,r2⟩:=rByte_go (fu:=fu) r1
    obtain ⟨x3,h3,r3⟩:=rByte_go (fu:=fu) r2
    obtain ⟨x4,h4,r4⟩:=rByte_go (fu:=fu) r3
    simp only [h1,h2,h3,h4,some_bind]
    have hno:=hr no (by simp)
    have e:no=((no.toNat:Nat):Int):=by omega
    have h5:=dec_l1_eq (fu:=fu) hf no.toNat fu x4 t { kind:=a,node:=b,id:=c,ops:=Zr.zd,deps:=Zr.zd,at_:=Zr.zd,vals:=Zr.zd } (by omega) (by omega) (by show ([]:List GOp).length+_≤_;simp;omega) rfl rfl rfl r4 (fun z hz=>hr z (by simp [hz]))
    rw [← e] at h5
    rw [h5]
    rfl
end
end Go.Proofs.Yteilffoclpgijaa
namespace Go.Proofs.Yteilffoclpgijaa
open Go.RowKit
open Rep (rep)
theorem wrsB (k:Nat) (h:k≤17592186043904):IntKind.wrap .i64 ((k:Int)+1)=((k+1:Nat):Int):=by rw [wr64 (by omega) (by omega)];omega
theorem hdr_eq {s:ByteArray} (h:s.size≤400):strOfNums (([⟨IntKind.wrap .u8 (Int.fdiv (s.size:Int) (2 ^ (min (Int.toNat 8) (IntKind.bits .i64))))⟩,⟨IntKind.wrap .u8 (s.size:Int)⟩]:List Byt).map Byt.val)=strOfNums [(s.size:Int) / 256,(s.size:Int)%256]:=by
  have e:(2:Int) ^ (min (Int.toNat 8) (IntKind.bits .i64))=256:=by decide
  have e1:IntKind.wrap .u8 (Int.fdiv (s.size:Int) (2 ^ (min (Int.toNat 8) (IntKind.bits .i64))))=(s.size:Int) / 256:=by
    rw [e,wr8,Int.fdiv_eq_ediv_of_nonneg _ (by omega)]
    omega
  have e2:IntKind.wrap .u8 (s.size:Int)=(s.size:Int)%256:=wr8 _
  simp only [List.map_cons,List.map_nil,e1,e2]
theorem wout_of {log s:ByteArray} {c:Int} (h:wcode log s=c) (hc:c≠0):wout log s=log:=by unfold wout;rw [h,if_neg hc]
theorem bkWriteD_eq {fu:Nat} {log s:ByteArray} (hs:s.size≤140737488351232):bkWriteD fu log s=some (wout log s,wcode log s):=by
  unfold bkWriteD bkWrite_j2
  by_cases h1:65536<log.size
  · have hc:wcode log s=2:=by unfold wcode;rw [if_pos h1]
    rw [bif_t (dec_t (by omega)),wout_of hc (by decide),hc]
  · rw [bif_f (dec_f (by omega))]
    by_cases h2:s.size=0
    · have hc:wcode log s=1:=by unfold wcode;rw [if_neg h1,if_pos (.inl h2)]
      rw [bif_t (dec_t (by omega)),cond_true,wout_of hc (by decide),hc]
    · rw [bif_f (dec_f (by omega))]
      by_cases h3:400<s.size
      · have hc:wcode log s=1:=by unfold wcode;rw [if_neg h1,if_pos (.inr h3)]
        rw [dec_t (by omega),cond_true,wout_of hc (by decide),hc]
      · rw [dec_f (by omega),cond_false,wr64 (x:=(log.size:Int)+2) (by omega) (by omega),wr64 (by omega) (by omega)]
        by_cases h4:65536<log.size+2+s.size
        · have hc:wcode log s=5:=by unfold wcode;rw [if_neg h1,if_neg (by omega),if_pos h4]
          rw [bif_t (dec_t (by omega)),wout_of hc (by decide),hc]
        · have hc:wcode log s=0:=by unfold wcode;rw [if_neg h1,if_neg (by omega),if_neg h4]
          have hz:(strOfNums [(s.size:Int) / 256,(s.size:Int)%256]).size=2:=rfl
          have hw:wout log s=wtext log s:=by unfold wout;rw [if_pos hc]
          rw [bif_f (dec_f (by omega)),bkWrite_j1,hdr_eq (by omega),cat_ok (by omega),some_bind,cat_ok (by rw [ByteArray.size_append];omega),some_bind,hc,hw]
          rfl
theorem bkTearD_eq {fu:Nat} {log s:ByteArray} {n:Int} (hs:s.size≤140737488351232):bkTearD fu log s n=some (tearZ log s n):=by
  unfold bkTearD
  rw [bkWriteD_eq hs,some_bind]
  rcases wcode_or log s with ⟨h0,h1,h2,h3⟩ | ⟨h0,_⟩
  · have hw:wout log s=wtext log s:=by unfold wout;rw [if_pos h0]
    have hsz:=wtext_size log s
    unfold tearZ
    rw [h0,hw,bif_f (by rfl),if_pos rfl]
    dsimp only
    rw [wr64 (x:=((wtext log s).size:Int)-(log.size:Int)) (by omega) (by omega),wr64 (by omega) (by omega)]
    unfold cutB cutOk
    simp only [Option.getD_some,Option.getD_none]
    rw [if_pos (by omega)]
    have e:((log.size:Int)+max 0 (min n (((wtext log s).size:Int)-(log.size:Int)))).toNat=log.size+tornLen s n:=by
      unfold tornLen
      split
      · omega
      · split<;>omega
    rw [e]
    rfl
  · unfold tearZ
    rw [bif_t (by simpa using h0),if_neg h0]
theorem idxS_at {s:ByteArray} {k:Nat} (h:k<s.size):idxS s (k:Int)=some ((s[k]).toNat:Int):=by
  unfold idxS
  rw [if_pos (by omega),Int.toNat_natCast,getElem?_pos s k h]
  rfl
theorem two_bytes {s:ByteArray} {k:Nat} (h:k+2≤s.size):orI .i64 (IntKind.wrap .i64 ((IntKind.wrap .i64 (((s[k]).toNat:Nat):Int))*2 ^ (min (Int.toNat 8) (IntKind.bits .i64)))) (IntKind.wrap .i64 (((s[k+1]).toNat:Nat):Int))=((recN s[k] s[k+1]:Nat):Int):=by
  have h1:=(s[k]).toNat_lt
  have h2:=(s[k+1]).toNat_lt
  rw [wr64 (x:=(((s[k]).toNat:Nat):Int)) (by omega) (by omega),wr64 (x:=(((s[k+1]).toNat:Nat):Int)) (by omega) (by omega),orI_byte (by omega) (by omega) (by omega) (by omega)]
  unfold recN
  omega
theorem bkRead_l1_eq {log:ByteArray} (hl:log.size≤65536) : ∀ (n m k:Nat) (acc:List ByteArray),log.size≤k+m→m<n→k≤log.size→ReadTo log acc k→bkRead_l1 log n acc k=some ((readL log.data.toList).1,((readL log.data.toList).2:Int))
  | 0,m,k,_,_,h,_,_=>absurd h (by omega)
  | n+1,m,k,acc,hk,hn,hkl,h=>by
    have hb:Rep.bytes ByteArray=16:=rfl
    have hlen:=h.2.2
    have hdl:log.data.toList.length=log.size:=rfl
    rw [bkRead_l1,wr64 (x:=(k:Int)+2) (by omega) (by omega)]
    by_cases h2:k+2≤log.size
    · have hstop : ¬ (1≤recN log[k] log[k+1]∧recN log[k] log[k+1]≤400∧recN log[k] log[k+1]≤log.size-k-2)→some (acc,(k:Int))=some ((readL log.data.toList).1,((readL log.data.toList).2:Int)):=fun hno=>by
        have he:readL (log.data.toList.drop k)=([],0):=by
          rw [drop_two h2,readL_stop (by rw [List.length_drop,hdl];omega)]
        rw [readTo_end h he]
      have hrn:recN log[k] log[k+1]<65536:=by
        have h1:=(log[k]).toNat_lt
        have h2:=(log[k+1]).toNat_lt
        unfold recN
        omega
      have hi:=two_bytes h2
      rw [bif_t (dec_t (by omega)),idxS_at (by omega),some_bind,wrsB k (by omega),idxS_at (by omega),some_bind]
      simp only [bkRead_j3,bkRead_j2,bkRead_j1,hi]
      rw [wr64 (x:=(log.size:Int)-(k:Int)) (by omega) (by omega),wr64 (x:=(log.size:Int)-(k:Int)-2) (by omega) (by omega)]
      generalize hr:recN log[k] log[k+1]=r at hstop hrn
      by_cases c1:r<1
      · rw [bif_t (dec_t (by omega)),cond_true];exact hstop (by omega)
      · rw [bif_f (dec_f (by omega))]
        by_cases c2:400<r
        · rw [bif_t (dec_t (by omega)),cond_true];exact hstop (by omega)
        · rw [bif_f (dec_f (by omega))]
          by_cases c3:log.size-k-2<r
          · rw [dec_t (by omega),cond_true];exact hstop (by omega)
          · rw [dec_f (by omega),cond_false]
            have hnext:=readTo_next h h2 (by rw [hr];omega)
            rw [hr] at hnext
            have e1:IntKind.wrap .i64 ((k:Int)+IntKind.wrap .i64 (2+(r:Int)))=((k+(2+r):Nat):Int):=by
              rw [wr64 (x:=2+(r:Int)) (by omega) (by omega),wr64 (by omega) (by omega)]
              omega
            have e2:cutB log (some (IntKind.wrap .i64 ((k:Int)+2))) (some (IntKind.wrap .i64 (IntKind.wrap .i64 ((k:Int)+2)+(r:Int))))=some (log.extract (k+2) (k+2+r)):=by
              rw [wr64 (x:=(k:Int)+2) (by omega) (by omega),wr64 (by omega) (by omega)]
              unfold cutB cutOk
              simp only [Option.getD_some]
              rw [if_pos (by omega)]
              have e:((k:Int)+2).toNat=k+2:=by omega
              have e':((k:Int)+2+(r:Int)).toNat=k+2+r:=by omega
              rw [e,e']
              rfl
            have e3:(log.extract (k+2) (k+2+r)).size≤140737488351232:=by
              rw [ByteArray.size_extract]
              omega
            rw [wr64 (x:=(k:Int)+2) (by omega) (by omega)] at e2
            first
              | rw [e2,some_bind,chkS_ok e3,some_bind,app_ok (by rw [hb];simp only [List.length_singleton];omega),some_bind,e1]
              | rw [wr64 (x:=(k:Int)+2) (by omega) (by omega),e2,some_bind,chkS_ok e3,some_bind,app_ok (by rw [hb];simp only [List.length_singleton];omega),some_bind,e1]
            exact bkRead_l1_eq hl n (m-1) (k+(2+r)) _ (by omega) (by omega) (by omega) hnext
    · rw [bif_f (dec_f (by omega)),bkRead_j1]
      have he:readL (log.data.toList.drop k)=([],0):=readL_short (by rw [List.length_drop,hdl];omega)
      rw [readTo_end h he]
theorem bkReadD_eq {fu:Nat} {log:ByteArray} (hl:log.size≤65536) (hf:log.size<fu):bkReadD fu log=some ((readL log.data.toList).1,((readL log.data.toList).2:Int)) :=
  bkRead_l1_eq hl fu log.size 0 [] (by omega) hf (by omega) (readTo_zero log)
theorem readL_small : ∀ (n:Nat) (l:List UInt8),l.length≤n→(readL l).2≤l.length∧(readL l).1.length≤l.length ∧ ∀ x∈(readL l).1,x.size≤400
  | n,[],_=>by rw [readL_short (by simp)];simp
  | n,[x],_=>by rw [readL_short (by simp)];simp
  | 0,a::b::r,h=>by simp at h
  | n+1,a::b::r,h=>by
    by_cases hk:1≤recN a b∧recN a b≤400∧recN a b≤r.length
    · have ih:=readL_small n (r.drop (recN a b)) (by simp at h ⊢;omega)
      rw [List.length_drop] at ih
      rw [readL_go hk]
      refine ⟨by simp only [List.length_cons];omega,by simp only [List.length_cons];omega,fun x hx => ?_⟩
      rcases List.mem_cons.1 hx with rfl | hx
      · show (List.take _ r).toArray.size≤400
        simp
        omega
      · exact ih.2.2 x hx
    · rw [readL_stop hk]
      simp
end Go.Proofs.Yteilffoclpgijaa
namespace Go.Proofs.Yteilffoclpgijaa
inductive Path (E:Nat→Nat→Prop):Nat→Nat→Prop where
  | refl (a:Nat):Path E a a
  | tail {a b c:Nat}:Path E a b→E b c→Path E a c
section
variable {E:Nat→Nat→Prop}
theorem Path.trans {a b c:Nat} (h:Path E a b) (k:Path E b c):Path E a c:=by
  induction k with
  | refl=>exact h
  | tail _ e ih=>exact .tail ih e
theorem Path.one {a b:Nat} (h:E a b):Path E a b := .tail (.refl a) h
theorem Path.head {a b c:Nat} (h:E a b) (k:Path E b c):Path E a c:=(Path.one h).trans k
theorem Path.closed {S:Nat→Prop} (hS : ∀ a b,S a→E a b→S b) {a b:Nat} (h:Path E a b) (ha:S a):S b:=by
  induction h with
  | refl=>exact ha
  | tail _ e ih=>exact hS _ _ ih e
structure Srch where
  mark:Nat→Nat
  low:Nat→Nat
  ring:Nat→Nat
  stack:List Nat
  next:Nat
def updN {α : Type} (f:Nat → α) (i:Nat) (x : α):Nat → α := fun k=>if k=i then x else f k
theorem updN_same {α : Type} (f:Nat → α) (i:Nat) (x : α):updN f i x i=x:=by simp [updN]
theorem updN_other {α : Type} (f:Nat → α) {i k:Nat} (x : α) (h:k≠i):updN f i x k=f k:=by simp [updN,h]
def Least (E:Nat→Nat→Prop) (v r:Nat):Prop:=Path E v r∧Path E r v ∧ ∀ w,Path E v w→Path E w v→r≤w
def wh (f:Nat→Nat):Nat:=(List.range 32).countP (fun i=>f i==0)
theorem countP_turn {p q:Nat→Bool} {n:Nat} (hp:p n=true) (hq:q n=false) (ho : ∀ k,k≠n→p k=q k) : ∀ (l:List Nat),l.Nodup→n∈l→l.countP p=l.countP q+1:=by
  have hsame : ∀ (l:List Nat),n∉l→l.countP p=l.countP q:=by
    intro l
    induction l with
    | nil=>intro _;rfl
    | cons a t ih =>
      intro hn
      simp only [List.mem_cons,not_or] at hn
      rw [List.countP_cons,List.countP_cons,ih hn.2,ho a (fun e=>hn.1 e.symm)]
  intro l
  induction l with
  | nil=>intro _ h;cases h
  | cons a t ih =>
    intro hnd hm
    rw [List.nodup_cons] at hnd
    rw [List.countP_cons,List.countP_cons]
    by_cases e:a=n
    · subst e
      rw [hsame t hnd.1,hp,hq]
      simp
    · have hmt:n∈t:=by
        rcases List.mem_cons.1 hm with h | h
        · exact absurd h.symm e
        · exact h
      rw [ih hnd.2 hmt,ho a e]
      omega
theorem countP_le {p q:Nat→Bool} (h : ∀ k,p k=true→q k=true) (l:List Nat):l.countP p≤l.countP q:=by
  induction l with
  | nil=>exact Nat.le_refl _
  | cons a t ih =>
    rw [List.countP_cons,List.countP_cons]
    cases hp:p a with
    | false=>simp;omega
    | true=>rw [h a hp];simp;omega
theorem wh_updN {f:Nat→Nat} {n x:Nat} (hn:n<32) (h0:f n=0) (hx:0<x):wh f=wh (updN f n x)+1:=by
  unfold wh
  refine countP_turn (n:=n) (by simp [h0]) ?_ (fun k hk=>by rw [updN_other _ _ hk]) _ List.nodup_range (List.mem_range.2 hn)
  rw [updN_same]
  simp
  omega
theorem wh_mono {f f':Nat→Nat} (h : ∀ v,0<f v→0<f' v):wh f'≤wh f:=by
  unfold wh
  refine countP_le (fun k hk => ?_) _
  have hk':f' k=0:=by simpa using hk
  have:f k=0:=by
    rcases Nat.eq_zero_or_pos (f k) with h0 | h0
    · exact h0
    · have:=h k h0;omega
  simp [this]
structure Inv (E:Nat→Nat→Prop) (s:Srch) (G:List Nat):Prop where
  lt : ∀ v,0<s.mark v→v<32
  le : ∀ v,s.mark v≤s.next
  inj : ∀ u v,s.mark u=s.mark v→0<s.mark u→u=v
  cnt:s.next+wh s.mark≤32
  sorted:s.stack.Pairwise (fun a b=>s.mark a<s.mark b)
  pos : ∀ v∈s.stack,0<s.mark v
  gray : ∀ g∈G,g∈s.stack
  black : ∀ v w,0<s.mark v→v∉G→E v w→0<s.mark w
  done : ∀ v w,0<s.mark v→v∉s.stack→E v w→w∉s.stack
  ring : ∀ v,0<s.mark v→v∉s.stack→Least E v (s.ring v)
  reach : ∀ x∈G,∀ y∈s.stack,s.mark x≤s.mark y→Path E x y
  back : ∀ y∈s.stack,∃ x∈G,s.mark x≤s.mark y∧Path E y x
structure Ext (E:Nat→Nat→Prop) (s s':Srch) (n:Nat):Prop where
  mark_old : ∀ v,0<s.mark v→s'.mark v=s.mark v
  low_old : ∀ v,0<s.mark v→s'.low v=s.low v
  fresh : ∀ v,s.mark v=0→0<s'.mark v→s.next<s'.mark v∧Path E n v
  next:s.next≤s'.next
structure Post (E:Nat→Nat→Prop) (s s':Srch) (n:Nat) (G:List Nat):Prop where
  inv:Inv E s' G
  ext:Ext E s s' n
  mine:0<s'.mark n
  low_le:s'.low n≤s'.mark n
  low_or:s'.low n=s'.mark n ∨ ∃ z∈s.stack,s'.mark z=s'.low n∧Path E n z
  stack : ∃ new,s'.stack=s.stack++new ∧ ∀ y∈new,∀ z∈s.stack,E y z→s'.low n≤s'.mark z
structure LI (E:Nat→Nat→Prop) (s:Srch) (G:List Nat) (n:Nat) (t:Srch) (ds:Nat→Prop):Prop where
  was:Inv E s G
  white:s.mark n=0
  inv:Inv E t (n::G)
  ext:Ext E s t n
  nmark:t.mark n=s.next+1
  low_le:t.low n≤t.mark n
  low_or:t.low n=t.mark n ∨ ∃ z∈s.stack,t.mark z=t.low n∧Path E n z
  stack : ∃ new,t.stack=s.stack++n::new ∧ ∀ y∈new,∀ z∈s.stack,E y z→t.low n≤t.mark z
  proc : ∀ d,ds d→0<t.mark d∧(d∈s.stack→t.low n≤t.mark d)
def startT (s:Srch) (n:Nat):Srch:={ mark:=updN s.mark n (s.next+1),low:=updN s.low n (s.next+1),ring:=s.ring,stack:=s.stack++[n],next:=s.next+1 }
theorem LI.start {s:Srch} {G:List Nat} {n:Nat} (h:Inv E s G) (hn:n<32) (h0:s.mark n=0) (hG : ∀ g∈G,Path E g n):LI E s G n (startT s n) (fun _=>False):=by
  have hns:n∉s.stack:=fun hm=>by have:=h.pos n hm;omega
  have hmk : ∀ v,v≠n→(startT s n).mark v=s.mark v:=fun v hv=>updN_other _ _ hv
  have hmn:(startT s n).mark n=s.next+1:=updN_same _ _ _
  have hne : ∀ v,0<s.mark v→v≠n:=fun v hv e=>by subst e;omega
  have hst:(startT s n).stack=s.stack++[n]:=rfl
  refine ⟨h,h0,⟨fun v hv => ?_,fun v => ?_,fun u v huv hu => ?_,?_,?_,fun v hv => ?_,fun g hg => ?_,fun v w hv hg he => ?_,fun v w hv hs he => ?_,fun v hv hs => ?_,fun x hx y hy hxy => ?_,fun y hy => ?_⟩,⟨fun v hv=>hmk v (hne v hv),fun v hv=>updN_other _ _ (hne v hv),fun v hv hv' => ?_,Nat.le_succ _⟩,hmn,?_,.inl ?_,⟨[],rfl,by simp⟩,fun d hd=>hd.elim⟩
  · by_cases e:v=n
    · subst e;exact hn
    · rw [hmk v e] at hv;exact h.lt v hv
  · show _≤s.next+1
    by_cases e:v=n
    · subst e;rw [hmn];exact Nat.le_refl _
    · rw [hmk v e];have:=h.le v;omega
  · by_cases e1:u=n
    · by_cases e2:v=n
      · rw [e1,e2]
      · subst e1;rw [hmn,hmk v e2] at huv;have:=h.le v;omega
    · by_cases e2:v=n
      · subst e2;rw [hmn,hmk u e1] at huv;have:=h.le u;omega
      · rw [hmk u e1,hmk v e2] at huv;rw [hmk u e1] at hu;exact h.inj u v huv hu
  · have:=wh_updN (x:=s.next+1) hn h0 (by omega)
    have hc:=h.cnt
    show s.next+1+wh (updN s.mark n (s.next+1))≤32
    omega
  · rw [hst,List.pairwise_append]
    refine ⟨?_,List.pairwise_singleton _ _,fun a ha b hb => ?_⟩
    · refine List.Pairwise.imp_of_mem (fun {a b} ha hb hab => ?_) h.sorted
      rw [hmk a (fun e=>hns (e ▸ ha)),hmk b (fun e=>hns (e ▸ hb))]
      exact hab
    · rw [List.mem_singleton] at hb
      subst hb
      rw [hmn,hmk a (fun e=>hns (e ▸ ha))]
      have:=h.le a;omega
  · rw [hst,List.mem_append,List.mem_singleton] at hv
    rcases hv with hv | rfl
    · have:=h.pos v hv
      rw [hmk v (hne v this)];exact this
    · rw [hmn];omega
  · rw [hst,List.mem_append,List.mem_singleton]
    rcases List.mem_cons.1 hg with rfl | hg
    · exact .inr rfl
    · exact .inl (h.gray g hg)
  · simp only [List.mem_cons,not_or] at hg
    rw [hmk v hg.1] at hv
    have:=h.black v w hv hg.2 he
    rw [hmk w (hne w this)];exact this
  · rw [hst,List.mem_append,List.mem_singleton,not_or] at hs
    rw [hmk v hs.2] at hv
    rw [hst,List.mem_append,List.mem_singleton,not_or]
    refine ⟨h.done v w hv hs.1 he,fun e => ?_⟩
    subst e
    have hvG:v∉G:=fun hg=>hs.1 (h.gray v hg)
    have:=h.black v w hv hvG he
    omega
  · rw [hst,List.mem_append,List.mem_singleton,not_or] at hs
    rw [hmk v hs.2] at hv
    exact h.ring v hv hs.1
  · rw [hst,List.mem_append,List.mem_singleton] at hy
    rcases List.mem_cons.1 hx with rfl | hx2
    · rcases hy with hy | rfl
      · have hp:=h.pos y hy
        rw [hmn,hmk y (hne y hp)] at hxy
        have:=h.le y;omega
      · exact .refl _
    · rcases hy with hy | rfl
      · have hp:=h.pos y hy
        have hpx:=h.pos x (h.gray x hx2)
        rw [hmk x (hne x hpx),hmk y (hne y hp)] at hxy
        exact h.reach x hx2 y hy hxy
      · exact hG x hx2
  · rw [hst,List.mem_append,List.mem_singleton] at hy
    rcases hy with hy | rfl
    · obtain ⟨x,hx,hxy,hp⟩:=h.back y hy
      have hpx:=h.pos x (h.gray x hx)
      refine ⟨x,List.mem_cons_of_mem _ hx,?_,hp⟩
      rw [hmk x (hne x hpx),hmk y (hne y (h.pos y hy))]
      exact hxy
    · exact ⟨y,List.mem_cons_self,Nat.le_refl _,.refl _⟩
  · by_cases e:v=n
    · subst e;rw [hmn];exact ⟨by omega,.refl _⟩
    · rw [hmk v e] at hv';omega
  · rw [hmn];show updN s.low n (s.next+1) n≤_;rw [updN_same];exact Nat.le_refl _
  · rw [hmn];exact updN_same _ _ _
theorem Inv.low {s:Srch} {G:List Nat} (h:Inv E s G) (l:Nat→Nat):Inv E { s with low:=l } G :=
  ⟨h.lt,h.le,h.inj,h.cnt,h.sorted,h.pos,h.gray,h.black,h.done,h.ring,h.reach,h.back⟩
section
variable {s t:Srch} {G:List Nat} {n:Nat} {ds:Nat→Prop}
theorem LI.old (h:LI E s G n t ds) {z:Nat} (hz:z∈s.stack):0<s.mark z∧t.mark z=s.mark z∧t.mark z<t.mark n:=by
  have h1:=h.was.pos z hz
  have h2:=h.ext.mark_old z h1
  have h3:=h.was.le z
  refine ⟨h1,h2,?_⟩
  rw [h2,h.nmark]
  omega
theorem LI.new (h:LI E s G n t ds) {new:List Nat} (hst:t.stack=s.stack++n::new) {y:Nat} (hy:y∈n::new):t.mark n≤t.mark y:=by
  have h1:=h.inv.sorted
  rw [hst,List.pairwise_append] at h1
  rcases List.mem_cons.1 hy with rfl | hy
  · exact Nat.le_refl _
  · exact Nat.le_of_lt ((List.pairwise_cons.1 h1.2.1).1 y hy)
theorem LI.visit {t':Srch} {d:Nat} (h:LI E s G n t ds) (hd0:t.mark d=0) (he:E n d) (hp:Post E t t' d (n::G)) :
    LI E s G n { t' with low:=updN t'.low n (min (t'.low n) (t'.low d)) } (fun x=>ds x∨x=d):=by
  have hn0:0<t.mark n:=by rw [h.nmark];omega
  have hmn:t'.mark n=t.mark n:=hp.ext.mark_old n hn0
  have hln:t'.low n=t.low n:=hp.ext.low_old n hn0
  have hmd:=hp.ext.fresh d hd0 hp.mine
  have hnn:t.mark n≤t.next:=h.inv.le n
  obtain ⟨new,hst,hnew⟩:=h.stack
  obtain ⟨newd,hst',hnew'⟩:=hp.stack
  have hlow2:(updN t'.low n (min (t'.low n) (t'.low d))) n=min (t.low n) (t'.low d):=by rw [updN_same,hln]
  refine ⟨h.was,h.white,hp.inv.low _,⟨fun v hv => ?_,fun v hv => ?_,fun v hv hv' => ?_,Nat.le_trans h.ext.next hp.ext.next⟩,by rw [← h.nmark];exact hmn,?_,?_,⟨new++newd,?_,fun y hy z hz hyz => ?_⟩,fun x hx => ?_⟩
  · have h1:=h.ext.mark_old v hv
    rw [hp.ext.mark_old v (by omega)];exact h1
  · have h1:=h.ext.mark_old v hv
    have hvn:v≠n:=fun e=>by subst e;rw [h.white] at hv;omega
    show updN t'.low n _ v=_
    rw [updN_other _ _ hvn,hp.ext.low_old v (by omega)]
    exact h.ext.low_old v hv
  · rcases Nat.eq_zero_or_pos (t.mark v) with h0 | h0
    · have h1:=hp.ext.fresh v h0 hv'
      have h2:=h.ext.next
      exact ⟨by show s.next<t'.mark v;omega,Path.head he h1.2⟩
    · have h1:=hp.ext.mark_old v h0
      have h2:=h.ext.fresh v hv h0
      exact ⟨by show s.next<t'.mark v;rw [h1];exact h2.1,h2.2⟩
  · show updN t'.low n _ n≤t'.mark n
    rw [hlow2,hmn]
    exact Nat.le_trans (Nat.min_le_left _ _) h.low_le
  · show updN t'.low n _ n=t'.mark n ∨ ∃ z∈s.stack,t'.mark z=updN t'.low n _ n∧Path E n z
    rw [hlow2,hmn]
    by_cases hle:t.low n≤t'.low d
    · rw [Nat.min_eq_left hle]
      rcases h.low_or with h1 | ⟨z,hz,h1,h2⟩
      · exact .inl h1
      · have h3:=h.old hz
        exact .inr ⟨z,hz,by rw [hp.ext.mark_old z (by omega)];exact h1,h2⟩
    · rw [Nat.min_eq_right (by omega)]
      have hll:=h.low_le
      rcases hp.low_or with h1 | ⟨z,hz,h1,h2⟩
      · omega
      · refine .inr ⟨z,?_,h1,Path.head he h2⟩
        have hz':=hz
        rw [hst] at hz'
        rcases List.mem_append.1 hz' with h3 | h3
        · exact h3
        · have h4:=h.new hst h3
          have h5:=hp.ext.mark_old z (h.inv.pos z hz)
          omega
  · show t'.stack=_
    rw [hst',hst]
    simp
  · show updN t'.low n _ n≤t'.mark z
    rw [hlow2]
    have h3:=h.old hz
    have h4:=hp.ext.mark_old z (by omega)
    rcases List.mem_append.1 hy with hy | hy
    · have:=hnew y hy z hz hyz
      rw [h4]
      exact Nat.le_trans (Nat.min_le_left _ _) this
    · have:=hnew' y hy z (by rw [hst];exact List.mem_append_left _ hz) hyz
      exact Nat.le_trans (Nat.min_le_right _ _) this
  · show 0<t'.mark x∧(x∈s.stack→updN t'.low n _ n≤t'.mark x)
    rw [hlow2]
    rcases hx with hx | rfl
    · have h1:=h.proc x hx
      have h2:=hp.ext.mark_old x h1.1
      rw [h2]
      exact ⟨h1.1,fun hs=>Nat.le_trans (Nat.min_le_left _ _) (h1.2 hs)⟩
    · exact ⟨hp.mine,fun hs=>by have:=h.old hs;omega⟩
theorem LI.on {d:Nat} (h:LI E s G n t ds) (hd:d∈t.stack) (he:E n d) :
    LI E s G n { t with low:=updN t.low n (min (t.low n) (t.mark d)) } (fun x=>ds x∨x=d):=by
  obtain ⟨new,hst,hnew⟩:=h.stack
  have hlow2:(updN t.low n (min (t.low n) (t.mark d))) n=min (t.low n) (t.mark d):=updN_same _ _ _
  refine ⟨h.was,h.white,h.inv.low _,⟨h.ext.mark_old,fun v hv => ?_,h.ext.fresh,h.ext.next⟩,h.nmark,?_,?_,⟨new,hst,fun y hy z hz hyz => ?_⟩,fun x hx => ?_⟩
  · have hvn:v≠n:=fun e=>by subst e;rw [h.white] at hv;omega
    show updN t.low n _ v=_
    rw [updN_other _ _ hvn]
    exact h.ext.low_old v hv
  · show updN t.low n _ n≤t.mark n
    rw [hlow2]
    exact Nat.le_trans (Nat.min_le_left _ _) h.low_le
  · show updN t.low n _ n=t.mark n ∨ ∃ z∈s.stack,t.mark z=updN t.low n _ n∧Path E n z
    rw [hlow2]
    by_cases hle:t.low n≤t.mark d
    · rw [Nat.min_eq_left hle];exact h.low_or
    · rw [Nat.min_eq_right (by omega)]
      have hll:=h.low_le
      refine .inr ⟨d,?_,rfl,Path.one he⟩
      have hd':=hd
      rw [hst] at hd'
      rcases List.mem_append.1 hd' with h3 | h3
      · exact h3
      · have h4:=h.new hst h3
        omega
  · show updN t.low n _ n≤t.mark z
    rw [hlow2]
    exact Nat.le_trans (Nat.min_le_left _ _) (hnew y hy z hz hyz)
  · show 0<t.mark x∧(x∈s.stack→updN t.low n _ n≤t.mark x)
    rw [hlow2]
    rcases hx with hx | rfl
    · have h1:=h.proc x hx
      exact ⟨h1.1,fun hs=>Nat.le_trans (Nat.min_le_left _ _) (h1.2 hs)⟩
    · exact ⟨h.inv.pos x hd,fun _=>Nat.min_le_right _ _⟩
theorem LI.skip {d:Nat} (h:LI E s G n t ds) (hm:0<t.mark d) (hd:d∉t.stack):LI E s G n t (fun x=>ds x∨x=d):=by
  obtain ⟨new,hst,hnew⟩:=h.stack
  refine ⟨h.was,h.white,h.inv,h.ext,h.nmark,h.low_le,h.low_or,h.stack,fun x hx => ?_⟩
  rcases hx with hx | rfl
  · exact h.proc x hx
  · exact ⟨hm,fun hs=>absurd (by rw [hst];exact List.mem_append_left _ hs) hd⟩
theorem LI.keep (h:LI E s G n t ds) (hall : ∀ d,E n d→ds d) (hlow:t.low n≠t.mark n):Post E s t n G:=by
  obtain ⟨new,hst,hnew⟩:=h.stack
  have hlt:t.low n<t.mark n:=Nat.lt_of_le_of_ne h.low_le hlow
  obtain ⟨z,hz,hm,hp⟩ : ∃ z∈s.stack,t.mark z=t.low n∧Path E n z:=by
    rcases h.low_or with h1 | h1
    · exact absurd h1 hlow
    · exact h1
  refine ⟨⟨h.inv.lt,h.inv.le,h.inv.inj,h.inv.cnt,h.inv.sorted,h.inv.pos,fun g hg=>h.inv.gray g (List.mem_cons_of_mem _ hg),fun v w hv hg hvw => ?_,h.inv.done,h.inv.ring,fun x hx=>h.inv.reach x (List.mem_cons_of_mem _ hx),fun y hy => ?_⟩,h.ext,by rw [h.nmark];omega,h.low_le,h.low_or,⟨n::new,hst,fun y hy z hz hyz => ?_⟩⟩
  · by_cases e:v=n
    · subst e;exact (h.proc w (hall w hvw)).1
    · exact h.inv.black v w hv (by simp only [List.mem_cons,not_or];exact ⟨e,hg⟩) hvw
  · obtain ⟨x,hx,hxy,p⟩:=h.inv.back y hy
    rcases List.mem_cons.1 hx with rfl | hx
    · obtain ⟨x',hx',hxz,p'⟩:=h.was.back z hz
      have h1:=h.old hz
      have h2:=h.old (h.was.gray x' hx')
      exact ⟨x',hx',by omega,(p.trans hp).trans p'⟩
    · exact ⟨x,hx,hxy,p⟩
  · rcases List.mem_cons.1 hy with rfl | hy
    · exact (h.proc z (hall z hyz)).2 hz
    · exact hnew y hy z hz hyz
theorem LI.pop (h:LI E s G n t ds) (hall : ∀ d,E n d→ds d) (hlow:t.low n=t.mark n) {new:List Nat} (hst:t.stack=s.stack++n::new) {r:Nat} {ring':Nat→Nat} (hr1 : ∀ v∈n::new,ring' v=r)
    (hr2 : ∀ v,v∉n::new→ring' v=t.ring v) (hmem:r∈n::new) (hmin : ∀ v∈n::new,r≤v):Post E s { t with ring:=ring',stack:=s.stack } n G:=by
  obtain ⟨new2,hst2,hnew⟩:=h.stack
  have e2:new2=new:=by
    rw [hst] at hst2
    have:=List.append_cancel_left hst2
    simp only [List.cons.injEq,true_and] at this
    exact this.symm
  subst e2
  have hC : ∀ y∈n::new2,y∈t.stack:=fun y hy=>by rw [hst];exact List.mem_append_right _ hy
  have hCn : ∀ y∈n::new2,t.mark n≤t.mark y:=fun y hy=>h.new hst hy
  have hS : ∀ y∈s.stack,y∈t.stack:=fun y hy=>by rw [hst];exact List.mem_append_left _ hy
  have hdis : ∀ y∈n::new2,y∉s.stack:=fun y hy hs=>by have:=hCn y hy;have:=h.old hs;omega
  have hfrom : ∀ y∈n::new2,Path E n y:=fun y hy=>h.inv.reach n List.mem_cons_self y (hC y hy) (hCn y hy)
  have hto : ∀ y∈n::new2,Path E y n:=fun y hy=>by
    obtain ⟨x,hx,hxy,p⟩:=h.inv.back y (hC y hy)
    refine p.trans (h.inv.reach x hx n (hC n List.mem_cons_self) ?_)
    rcases List.mem_cons.1 hx with rfl | hx
    · exact Nat.le_refl _
    · have:=h.old (h.was.gray x hx);omega
  have hout : ∀ y∈n::new2,∀ w,E y w→0<t.mark w∧(w∈n::new2∨w∉t.stack):=by
    intro y hy w hyw
    have hw0:0<t.mark w:=by
      rcases List.mem_cons.1 hy with rfl | hy'
      · exact (h.proc w (hall w hyw)).1
      · refine h.inv.black y w (h.inv.pos y (hC y hy)) ?_ hyw
        simp only [List.mem_cons,not_or]
        refine ⟨fun e => ?_,fun hg=>hdis y hy (h.was.gray y hg)⟩
        subst e
        have h1:=h.inv.sorted
        rw [hst,List.pairwise_append] at h1
        exact absurd ((List.pairwise_cons.1 h1.2.1).1 y hy') (Nat.lt_irrefl _)
    refine ⟨hw0,?_⟩
    by_cases hws:w∈t.stack
    · left
      have hws':=hws
      rw [hst] at hws'
      rcases List.mem_append.1 hws' with h3 | h3
      · have h4:=h.old h3
        have h5:t.low n≤t.mark w:=by
          rcases List.mem_cons.1 hy with rfl | hy'
          · exact (h.proc w (hall w hyw)).2 h3
          · exact hnew y hy' w h3 hyw
        omega
      · exact h3
    · exact .inr hws
  have hdone : ∀ a b,(0<t.mark a∧a∉t.stack)→E a b→(0<t.mark b∧b∉t.stack):=fun a b ⟨h1,h2⟩ hab =>
    ⟨h.inv.black a b h1 (fun hg=>h2 (h.inv.gray a hg)) hab,h.inv.done a b h1 h2 hab⟩
  have hclosed : ∀ a b,(0<t.mark a∧(a∈n::new2∨a∉t.stack))→E a b→(0<t.mark b∧(b∈n::new2∨b∉t.stack)):=by
    rintro a b ⟨h1,h2 | h2⟩ hab
    · exact hout a h2 b hab
    · have:=hdone a b ⟨h1,h2⟩ hab
      exact ⟨this.1,.inr this.2⟩
  have hnot : ∀ v,v∉s.stack→v∉n::new2→v∉t.stack:=fun v h1 h2 h3=>by
    rw [hst] at h3
    rcases List.mem_append.1 h3 with h3 | h3
    · exact h1 h3
    · exact h2 h3
  have hsorted:s.stack.Pairwise (fun a b=>t.mark a<t.mark b):=by
    have h1:=h.inv.sorted
    rw [hst,List.pairwise_append] at h1
    exact h1.1
  refine ⟨⟨h.inv.lt,h.inv.le,h.inv.inj,h.inv.cnt,hsorted,fun v hv=>h.inv.pos v (hS v hv),h.was.gray,fun v w hv hg hvw => ?_,fun v w hv hs hvw => ?_,fun v hv hs => ?_,fun x hx y hy=>h.inv.reach x (List.mem_cons_of_mem _ hx) y (hS y hy),fun y hy => ?_⟩,
    ⟨h.ext.mark_old,h.ext.low_old,h.ext.fresh,h.ext.next⟩,by show 0<t.mark n;rw [h.nmark];omega,h.low_le,.inl hlow,⟨[],by simp,by simp⟩⟩
  · by_cases e:v=n
    · subst e;exact (h.proc w (hall w hvw)).1
    · exact h.inv.black v w hv (by simp only [List.mem_cons,not_or];exact ⟨e,hg⟩) hvw
  · by_cases hvC:v∈n::new2
    · rcases (hout v hvC w hvw).2 with h1 | h1
      · exact hdis w h1
      · exact fun h2=>h1 (hS w h2)
    · have:=h.inv.done v w hv (hnot v hs hvC) hvw
      exact fun h2=>this (hS w h2)
  · by_cases hvC:v∈n::new2
    · show Least E v (ring' v)
      rw [hr1 v hvC]
      refine ⟨(hto v hvC).trans (hfrom r hmem),(hto r hmem).trans (hfrom v hvC),fun w hvw hwv=>hmin w ?_⟩
      have h1:=Path.closed (S:=fun a=>0<t.mark a∧(a∈n::new2∨a∉t.stack)) hclosed hvw ⟨hv,.inl hvC⟩
      rcases h1.2 with h2 | h2
      · exact h2
      · have h3:=Path.closed (S:=fun a=>0<t.mark a∧a∉t.stack) hdone hwv ⟨h1.1,h2⟩
        exact absurd (hC v hvC) h3.2
    · show Least E v (ring' v)
      rw [hr2 v hvC]
      exact h.inv.ring v hv (hnot v hs hvC)
  · obtain ⟨x,hx,hxy,p⟩:=h.was.back y hy
    have h1:=h.old hy
    have h2:=h.old (h.was.gray x hx)
    exact ⟨x,hx,by show t.mark x≤t.mark y;omega,p⟩
end
theorem Inv.empty {s:Srch} (h1 : ∀ v,s.mark v=0) (h2:s.stack=[]) (h3:s.next=0):Inv E s []:=by
  refine ⟨fun v hv => ?_,fun v => ?_,fun u v _ hu => ?_,?_,(by rw [h2];exact .nil),fun v hv => ?_,fun g hg=>(by cases hg),fun v w hv => ?_,fun v w hv => ?_,fun v hv => ?_,fun x hx=>(by cases hx),fun y hy => ?_⟩
  · rw [h1] at hv;omega
  · rw [h1];omega
  · rw [h1] at hu;omega
  · rw [h3]
    have:wh s.mark≤32:=by
      have:=List.countP_le_length (p:=fun i=>s.mark i==0) (l:=List.range 32)
      rw [List.length_range] at this
      exact this
    omega
  · rw [h2] at hv;cases hv
  · rw [h1] at hv;omega
  · rw [h1] at hv;omega
  · rw [h1] at hv;omega
  · rw [h2] at hy;cases hy
theorem Post.final {s s':Srch} {n:Nat} (h:Post E s s' n []) (h1 : ∀ v,s.mark v=0):(∀ v,0<s'.mark v↔Path E n v) ∧ ∀ v,Path E n v→Least E v (s'.ring v):=by
  have hst : ∀ y,y∉s'.stack:=fun y hy=>by obtain ⟨x,hx,_⟩:=h.inv.back y hy;cases hx
  have hp : ∀ v,Path E n v→0<s'.mark v:=fun v hv=>Path.closed (S:=fun a=>0<s'.mark a) (fun a b ha hab=>h.inv.black a b ha (by simp) hab) hv h.mine
  exact ⟨fun v=>⟨fun hv=>(h.ext.fresh v (h1 v) hv).2,hp v⟩,fun v hv=>h.inv.ring v (hp v hv) (hst v)⟩
end
end Go.Proofs.Yteilffoclpgijaa
namespace Go.Proofs.Yteilffoclpgijaa
set_option linter.unusedVariables false
theorem nodup_len : ∀ (n:Nat) (l:List Nat),l.Nodup→(∀ x∈l,x<n)→l.length≤n
  | 0,l,_,h=>by
    cases l with
    | nil=>simp
    | cons a t=>exact absurd (h a List.mem_cons_self) (Nat.not_lt_zero _)
  | n+1,l,hn,h=>by
    have h1:=nodup_len n (l.filter (· != n)) (hn.filter _) (fun x hx=>by
      rw [List.mem_filter] at hx
      have:=h x hx.1
      have h2:x≠n:=by simpa using hx.2
      omega)
    have h2:l.length≤(l.filter (· != n)).length+1:=by
      clear h1 h
      induction l with
      | nil=>simp
      | cons a t ih =>
        rw [List.nodup_cons] at hn
        have ih:=ih hn.2
        by_cases e:a=n
        · subst e
          have:t.filter (· != a)=t:=List.filter_eq_self.2 fun x hx=>by simp;rintro rfl;exact hn.1 hx
          simp [this]
        · rw [List.filter_cons_of_pos (by simpa using e)]
          simp only [List.length_cons]
          omega
    omega
theorem countP_lt {p q:Nat→Bool} (h : ∀ k,q k=true→p k=true) {x:Nat} (hp:p x=true) (hq:q x=false) : ∀ (l:List Nat),x∈l→l.countP q<l.countP p:=by
  intro l
  induction l with
  | nil=>intro h;cases h
  | cons a t ih =>
    intro hm
    rw [List.countP_cons,List.countP_cons]
    have hle:=countP_le h t
    rcases List.mem_cons.1 hm with rfl | hm
    · rw [hp,hq];simp;omega
    · have:=ih hm
      cases hqa:q a with
      | false=>simp;omega
      | true=>rw [h a hqa];simp;omega
def candO (P:Nat→Nat→Bool) (n:Nat) (out:List Nat) (m:Nat):Bool:=P n m&&(!out.contains m&&(List.range 32).all fun d => !P m d||(P d m||out.contains d))
def nextO (P:Nat→Nat→Bool) (n:Nat) (out:List Nat):Option Nat:=(List.range 32).find? (candO P n out)
def ringO (P:Nat→Nat→Bool) (c:Nat):List Nat:=(List.range 32).filter fun m=>P c m&&P m c
def orderF (P:Nat→Nat→Bool) (n:Nat):Nat→List Nat→List Nat
  | 0,out=>out
  | k+1,out=>match nextO P n out with
    | none=>out
    | some c=>orderF P n k (out++ringO P c)
def orderS (P:Nat→Nat→Bool) (n:Nat):List Nat:=orderF P n 32 []
structure Pre (P:Nat→Nat→Bool):Prop where
  refl : ∀ a,a<32→P a a=true
  trans : ∀ a b c,P a b=true→P b c=true→P a c=true
  lt : ∀ a b,a<32→P a b=true→b<32
structure OKO (P:Nat→Nat→Bool) (n:Nat) (out:List Nat):Prop where
  nodup:out.Nodup
  lt : ∀ m∈out,m<32
  sub : ∀ m∈out,P n m=true
  dc : ∀ m∈out,∀ d,P m d=true→d∈out
section
variable {P:Nat→Nat→Bool} {n:Nat} {out:List Nat}
theorem candO_iff {m:Nat}:candO P n out m=true↔P n m=true∧m∉out ∧ ∀ d,d<32→P m d=true→P d m=true∨d∈out:=by
  simp only [candO,Bool.and_eq_true,Bool.not_eq_true',List.all_eq_true,List.mem_range,Bool.or_eq_true,List.contains_eq_mem,decide_eq_true_eq,decide_eq_false_iff_not]
  constructor
  · rintro ⟨h1,h2,h3⟩
    refine ⟨h1,h2,fun d hd hm => ?_⟩
    rcases h3 d hd with h | h
    · rw [hm] at h;cases h
    · exact h
  · rintro ⟨h1,h2,h3⟩
    refine ⟨h1,h2,fun d hd => ?_⟩
    cases hm:P m d with
    | false=>exact .inl rfl
    | true=>exact .inr (h3 d hd hm)
theorem nextO_some {c:Nat} (h:nextO P n out=some c):c<32∧candO P n out c=true ∧ ∀ m,m<c→candO P n out m=false:=by
  unfold nextO at h
  have h1:=List.find?_some h
  have h2:=List.mem_of_find?_eq_some h
  refine ⟨List.mem_range.1 h2,h1,fun m hm => ?_⟩
  rw [List.find?_range_eq_some] at h
  have:=h.2.2 m hm
  simpa using this
theorem nextO_none:nextO P n out=none ↔ ∀ m,m<32→candO P n out m=false:=by
  unfold nextO
  rw [List.find?_eq_none]
  simp
theorem mem_ringO {c m:Nat}:m∈ringO P c↔m<32∧P c m=true∧P m c=true:=by
  simp [ringO,List.mem_filter,List.mem_range]
theorem OKO.nil:OKO P n []:=⟨List.nodup_nil,by simp,by simp,by simp⟩
theorem OKO.step (hP:Pre P) (hn:n<32) (h:OKO P n out) {c:Nat} (hc:nextO P n out=some c):OKO P n (out++ringO P c):=by
  obtain ⟨hc32,hcand,_⟩:=nextO_some hc
  rw [candO_iff] at hcand
  obtain ⟨h1,h2,h3⟩:=hcand
  refine ⟨?_,fun m hm => ?_,fun m hm => ?_,fun m hm d hd => ?_⟩
  · rw [List.nodup_append]
    refine ⟨h.nodup,List.nodup_range.filter _,fun a ha b hb => ?_⟩
    rintro rfl
    exact h2 (h.dc a ha c (mem_ringO.1 hb).2.2)
  · rcases List.mem_append.1 hm with hm | hm
    · exact h.lt m hm
    · exact (mem_ringO.1 hm).1
  · rcases List.mem_append.1 hm with hm | hm
    · exact h.sub m hm
    · exact hP.trans _ _ _ h1 (mem_ringO.1 hm).2.1
  · rcases List.mem_append.1 hm with hm | hm
    · exact List.mem_append_left _ (h.dc m hm d hd)
    · obtain ⟨hm32,hcm,hmc⟩:=mem_ringO.1 hm
      have hcd:=hP.trans _ _ _ hcm hd
      have hd32:=hP.lt m d hm32 hd
      rcases h3 d hd32 hcd with h4 | h4
      · exact List.mem_append_right _ (mem_ringO.2 ⟨hd32,hcd,h4⟩)
      · exact List.mem_append_left _ h4
theorem ringO_self (hP:Pre P) {c:Nat} (hc:c<32):c∈ringO P c:=mem_ringO.2 ⟨hc,hP.refl c hc,hP.refl c hc⟩
theorem OKO.len (h:OKO P n out):out.length≤32:=nodup_len 32 out h.nodup h.lt
theorem OKO.full (h:OKO P n out) (hl:32≤out.length):nextO P n out=none:=by
  rw [nextO_none]
  intro m hm
  cases hc:candO P n out m with
  | false=>rfl
  | true =>
    rw [candO_iff] at hc
    have:=nodup_len 32 (m::out) (List.nodup_cons.2 ⟨hc.2.1,h.nodup⟩) (fun x hx=>by
      rcases List.mem_cons.1 hx with rfl | hx
      · exact hm
      · exact h.lt x hx)
    simp only [List.length_cons] at this
    omega
theorem OKO.more (hP:Pre P) (hn:n<32) (h:OKO P n out) : ∀ (k m:Nat),(List.range 32).countP (P m)≤k→P n m=true→m∉out→nextO P n out≠none
  | k,m,hk,hm,hmo=>by
    intro h0
    have hm32:=hP.lt n m hn hm
    have hno:=nextO_none.1 h0 m hm32
    by_cases hall : ∀ d,d<32→P m d=true→P d m=true∨d∈out
    · rw [candO_iff.2 ⟨hm,hmo,hall⟩] at hno
      cases hno
    · have hex : ∃ d,d<32∧P m d=true∧P d m=false∧d∉out:=by
        refine Classical.byContradiction fun hne=>hall fun d hd hmd => ?_
        by_cases h1:d∈out
        · exact .inr h1
        · cases h2:P d m with
          | true=>exact .inl rfl
          | false=>exact absurd ⟨d,hd,hmd,h2,h1⟩ hne
      obtain ⟨d,hd,hmd,hdm,hdo⟩:=hex
      have hlt:(List.range 32).countP (P d)<(List.range 32).countP (P m) :=
        countP_lt (p:=P m) (q:=P d) (fun x hx=>hP.trans _ _ x hmd hx) (hP.refl m hm32) hdm _ (List.mem_range.2 hm32)
      cases k with
      | zero=>omega
      | succ k=>exact OKO.more hP hn h k d (by omega) (hP.trans _ _ _ hm hmd) hdo h0
theorem orderF_end (hP:Pre P) (hn:n<32) : ∀ (k:Nat) (out:List Nat),OKO P n out→32≤k+out.length→OKO P n (orderF P n k out)∧nextO P n (orderF P n k out)=none
  | 0,out,h,hk=>⟨h,h.full (by omega)⟩
  | k+1,out,h,hk=>by
    unfold orderF
    cases hc:nextO P n out with
    | none=>exact ⟨h,hc⟩
    | some c =>
      refine orderF_end hP hn k _ (h.step hP hn hc) ?_
      have:=List.length_pos_of_mem (ringO_self hP (nextO_some hc).1)
      rw [List.length_append]
      omega
theorem orderS_mem (hP:Pre P) (hn:n<32) (m:Nat):m∈orderS P n↔P n m=true:=by
  obtain ⟨h1,h2⟩:=orderF_end hP hn 32 [] OKO.nil (by simp)
  refine ⟨h1.sub m,fun hm => ?_⟩
  refine Classical.byContradiction fun hno => ?_
  exact h1.more hP hn _ m (Nat.le_refl _) hm hno h2
theorem orderS_ok (hP:Pre P) (hn:n<32):OKO P n (orderS P n):=(orderF_end hP hn 32 [] OKO.nil (by simp)).1
end
end Go.Proofs.Yteilffoclpgijaa
namespace Go.Proofs.Yteilffoclpgijaa
open Go.RowKit
open Rep (rep)
section
variable {α : Type} {n:Nat} {v:Vector α n} {k:Nat}
theorem idxV_ok (hk:k<n):idxV v (k:Int)=some v[k]:=by
  unfold idxV
  rw [if_pos (Int.natCast_nonneg k)]
  simp [hk]
theorem setV_ok {x : α} (hk:k<n):setV v (k:Int) x=some (v.set k x):=by
  unfold setV
  rw [if_pos ⟨Int.natCast_nonneg k,by omega⟩]
  congr 1
  refine Vector.ext fun j hj => ?_
  simp [Vector.getElem_setIfInBounds,Vector.getElem_set]
end
def bat (v:Vector Bool 32) (k:Nat):Bool:=v[k]?.getD false
theorem bat_lt {v:Vector Bool 32} {k:Nat} (hk:k<32):v[k]=bat v k:=by simp [bat,hk]
theorem idxB {v:Vector Bool 32} {k:Nat} (hk:k<32):idxV v (k:Int)=some (bat v k):=by rw [idxV_ok hk,bat_lt hk]
theorem bat_set {v:Vector Bool 32} {k j:Nat} {x:Bool} (hk:k<32):bat (v.set k x) j=if k=j then x else bat v j:=by
  unfold bat
  by_cases hj:j<32
  · simp only [Vector.getElem?_set]
    by_cases e:k=j
    · subst e;simp
    · simp [e]
  · have hkj:k≠j:=by omega
    simp [hj,hkj]
theorem bat_ext {v u:Vector Bool 32} (h : ∀ k,k<32→bat v k=bat u k):v=u:=by
  refine Vector.ext fun k hk => ?_
  rw [bat_lt hk,bat_lt hk]
  exact h k hk
theorem bat_zero (k:Nat):bat (Zr.zd:Vector Bool 32) k=false:=by
  show bat (Vector.replicate 32 false) k=false
  unfold bat
  by_cases hk:k<32<;>simp [hk]
def cz (v:Vector Bool 32):Nat:=(List.range 32).countP fun k => !bat v k
theorem cz_set {v:Vector Bool 32} {k:Nat} (hk:k<32) (h:bat v k=false):cz v=cz (v.set k true)+1:=by
  unfold cz
  refine countP_turn (n:=k) (by simp [h]) (by rw [bat_set hk,if_pos rfl];rfl) (fun j hj => ?_) _ List.nodup_range (List.mem_range.2 hk)
  rw [bat_set hk,if_neg (fun e=>hj e.symm)]
theorem cz_le (v:Vector Bool 32):cz v≤32:=by
  unfold cz
  have:=List.countP_le_length (p:=fun k => !bat v k) (l:=List.range 32)
  rw [List.length_range] at this
  exact this
theorem cz_mono {v u:Vector Bool 32} (h : ∀ k,bat v k=true→bat u k=true):cz u≤cz v:=by
  unfold cz
  refine countP_le (fun k hk => ?_) _
  cases hv:bat v k with
  | false=>rfl
  | true=>rw [h k hv] at hk;cases hk
def depsAt (g:GGraph) (a:Nat):List Int:=if h:a<32 then g.deps[a] else []
theorem idxD {g:GGraph} {a:Nat} (h:a<32):idxV g.deps (a:Int)=some (depsAt g a):=by rw [idxV_ok h];simp [depsAt,h]
def Edge (g:GGraph) (a b:Nat):Prop:=a<32∧bat g.known a=true∧(b:Int)∈depsAt g a∧b<32
def Small (g:GGraph) (N:Nat):Prop := ∀ a,(depsAt g a).length<N∧(depsAt g a).length≤17592186043904
theorem path_lt {g:GGraph} {a b:Nat} (h:Path (Edge g) a b) (ha:a<32):b<32:=by
  cases h with
  | refl=>exact ha
  | tail _ e=>exact e.2.2.2
theorem len_bytes {l:List Int} (h:l.length≤100):(l.length+1)*Rep.bytes Int≤140737488351232:=by
  have:Rep.bytes Int=8:=rfl
  rw [this];omega
theorem wrs (k:Nat) (h:k≤17592186043904):IntKind.wrap .i64 ((k:Int)+1)=((k+1:Nat):Int):=by rw [wr64 (by omega) (by omega)];omega
theorem int_cases (x:Int):(∃ b:Nat,b<32∧x=b) ∨ ¬ (0≤x∧x<32):=by
  by_cases h:0≤x∧x<32
  · exact .inl ⟨x.toNat,by omega,by omega⟩
  · exact .inr h
theorem drop_mem {α : Type} {l:List α} {k:Nat} (hk:k<l.length):l.drop k=l[k]::l.drop (k+1):=List.drop_eq_getElem_cons hk
structure Fed (ds:List Int) (d:Vector Bool 32) (l:List Int) (d':Vector Bool 32) (l':List Int):Prop where
  keep : ∀ k,bat d k=true→bat d' k=true
  all : ∀ b:Nat,b<32→(b:Int)∈ds→bat d' b=true
  only : ∀ k,bat d' k=true→bat d k=true∨((k:Int)∈ds∧(k:Int)∈l')
  old : ∀ x,x∈l→x∈l'
  new : ∀ x,x∈l'→x∈l ∨ ∃ b:Nat,b<32∧x=b∧(b:Int)∈ds∧bat d' b=true
  cnt:l'.length+cz d'=l.length+cz d
theorem Fed.refl {d:Vector Bool 32} {l:List Int}:Fed [] d l d l:=⟨fun _ h=>h,fun _ _ h=>by simp at h,fun _ h => .inl h,fun _ h=>h,fun _ h => .inl h,rfl⟩
theorem Fed.skip {x:Int} {ds:List Int} {d d':Vector Bool 32} {l l':List Int} (hx : ∀ b:Nat,b<32→x=b→bat d b=true) (h:Fed ds d l d' l'):Fed (x::ds) d l d' l':=by
  refine ⟨h.keep,fun b hb hm => ?_,fun k hk => ?_,h.old,fun y hy => ?_,h.cnt⟩
  · rcases List.mem_cons.1 hm with e | hm
    · exact h.keep b (hx b hb e.symm)
    · exact h.all b hb hm
  · rcases h.only k hk with h1 | h1
    · exact .inl h1
    · exact .inr ⟨List.mem_cons_of_mem _ h1.1,h1.2⟩
  · rcases h.new y hy with h1 | ⟨b,h1,h2,h3,h4⟩
    · exact .inl h1
    · exact .inr ⟨b,h1,h2,List.mem_cons_of_mem _ h3,h4⟩
theorem Fed.push {a:Nat} {ds:List Int} {d d':Vector Bool 32} {l l':List Int} (ha:a<32) (hd:bat d a=false) (h:Fed ds (d.set a true) (l++[(a:Int)]) d' l'):Fed ((a:Int)::ds) d l d' l':=by
  have hset:bat (d.set a true) a=true:=by rw [bat_set ha,if_pos rfl]
  refine ⟨fun k hk=>h.keep k (by rw [bat_set ha];split<;>simp [hk]),fun b hb hm => ?_,fun k hk => ?_,fun y hy=>h.old y (List.mem_append_left _ hy),fun y hy => ?_,?_⟩
  · rcases List.mem_cons.1 hm with e | hm
    · have:b=a:=by omega
      subst this
      exact h.keep b hset
    · exact h.all b hb hm
  · rcases h.only k hk with h1 | h1
    · rw [bat_set ha] at h1
      by_cases e:a=k
      · subst e
        exact .inr ⟨List.mem_cons_self,h.old _ (by simp)⟩
      · rw [if_neg e] at h1
        exact .inl h1
    · exact .inr ⟨List.mem_cons_of_mem _ h1.1,h1.2⟩
  · rcases h.new y hy with h1 | ⟨b,h1,h2,h3,h4⟩
    · rcases List.mem_append.1 h1 with h1 | h1
      · exact .inl h1
      · rw [List.mem_singleton] at h1
        exact .inr ⟨a,ha,h1,List.mem_cons_self,h.keep a hset⟩
    · exact .inr ⟨b,h1,h2,List.mem_cons_of_mem _ h3,h4⟩
  · have h1:=h.cnt
    have h2:=cz_set ha hd
    rw [List.length_append] at h1
    simp only [List.length_cons,List.length_nil] at h1
    omega
theorem reach_l2_eq {rec:Vector Bool 32→List Int→Option (Vector Bool 32)} {ds:List Int} (hds:ds.length≤17592186043904) : ∀ (n m k:Nat) (d:Vector Bool 32) (l:List Int),ds.length=k+m→m<n→l.length+cz d≤100 →
    ∃ d' l',reach_l2 rec ds n d l k=rec d' l'∧Fed (ds.drop k) d l d' l'
  | 0,m,k,d,l,_,h,_=>absurd h (by omega)
  | n+1,0,k,d,l,hk,_,_=>⟨d,l,by rw [reach_l2,bif_f (dec_f (by omega))],by rw [List.drop_of_length_le (by omega)];exact Fed.refl⟩
  | n+1,m+1,k,d,l,hk,hn,hl=>by
    have hlt:k<ds.length:=by omega
    have ih:=fun d l h=>reach_l2_eq (rec:=rec) hds n m (k+1) d l (by omega) (by omega) h
    rw [reach_l2,bif_t (dec_t (by omega)),idx_nat,List.getElem?_eq_getElem hlt,some_bind,drop_mem hlt]
    simp only [reach_j3,reach_j2,wrs k (by omega)]
    generalize ds[k]=x
    rcases int_cases x with ⟨b,hb,rfl⟩ | hx
    · rw [bif_t (dec_t (by omega)),bif_t (dec_t (by omega)),inR_ok (by omega) (by omega),some_bind,idxB hb,some_bind]
      cases hd:bat d b with
      | true =>
        obtain ⟨d',l',h1,h2⟩:=ih d l hl
        exact ⟨d',l',by rw [← h1];rfl,h2.skip fun c _ e=>(show c=b by omega) ▸ hd⟩
      | false =>
        have hc:=cz_set hb hd
        obtain ⟨d',l',h1,h2⟩:=ih (d.set b true) (l++[(b:Int)]) (by simp;omega)
        refine ⟨d',l',?_,h2.push hb hd⟩
        simp only [Bool.not_false,cond_true,some_bind,setV_ok hb,app_ok (a:=l) (b:=[(b:Int)]) (len_bytes (show l.length≤100 by omega))]
        exact h1
    · obtain ⟨d',l',h1,h2⟩:=ih d l hl
      refine ⟨d',l',?_,h2.skip fun c hc e=>absurd (show 0≤x∧x<32 by omega) hx⟩
      by_cases h0:x≥0
      · rw [bif_t (dec_t h0),bif_f (dec_f (by omega))];exact h1
      · rw [bif_f (dec_f h0)];exact h1
structure Going (g:GGraph) (s:Nat) (d:Vector Bool 32) (l:List Int):Prop where
  first:bat d s=true
  path : ∀ k,bat d k=true→Path (Edge g) s k
  work : ∀ x∈l,∃ b:Nat,b<32∧x=b∧bat d b=true
  closed : ∀ a b,bat d a=true→(a:Int)∉l→Edge g a b→bat d b=true
theorem Going.fin {g:GGraph} {s:Nat} {d:Vector Bool 32} (h:Going g s d []) (k:Nat):bat d k=true↔Path (Edge g) s k :=
  ⟨h.path k,fun hp=>Path.closed (S:=fun a=>bat d a=true) (fun a b ha he=>h.closed a b ha (by simp) he) hp h.first⟩
open Classical in
noncomputable def reachV (g:GGraph) (s:Nat):Vector Bool 32:=Vector.ofFn fun k=>decide (Path (Edge g) s k.val)
theorem bat_reachV {g:GGraph} {s k:Nat} (hk:k<32):bat (reachV g s) k=true↔Path (Edge g) s k:=by
  unfold bat reachV
  simp [hk]
theorem reachV_of {g:GGraph} {s:Nat} {d:Vector Bool 32} (h : ∀ k,bat d k=true↔Path (Edge g) s k):d=reachV g s:=by
  refine bat_ext fun k hk => ?_
  rw [Bool.eq_iff_iff,h,bat_reachV hk]
theorem cutL_pop {l:List Int} (h:0<l.length):cutL l none (some ((l.length:Int)-1))=some l.dropLast:=by
  unfold cutL cutOk
  simp only [Option.getD_none,Option.getD_some]
  rw [if_pos (by omega)]
  simp only [Option.map_some,Option.some.injEq]
  rw [List.dropLast_eq_take,show ((0:Int)).toNat=0 from rfl,List.drop_zero]
  congr 1
  omega
theorem reach_l1_eq {fu N:Nat} {g:GGraph} (hg:Small g N) (hf:N≤fu) {s:Nat} : ∀ (n:Nat) (d:Vector Bool 32) (l:List Int),Going g s d l→l.length+cz d<n→l.length+cz d≤100→reach_l1 fu g n d l=some (reachV g s)
  | 0,d,l,_,h,_=>absurd h (by omega)
  | n+1,d,l,hG,hn,hl=>by
    rw [reach_l1]
    by_cases h0:l.length=0
    · have:l=[]:=List.length_eq_zero_iff.1 h0
      subst this
      rw [bif_f (dec_f (by simp)),some_bind,reachV_of hG.fin]
    · rw [bif_t (dec_t (by omega)),wr64 (by omega) (by omega),show ((l.length:Int)-1)=((l.length-1:Nat):Int) from by omega,idx_nat,List.getElem?_eq_getElem (by omega),some_bind,
        show (((l.length-1:Nat):Int))=(l.length:Int)-1 from by omega,cutL_pop (by omega),some_bind]
      have hlast:l=l.dropLast++[l[l.length-1]]:=by
        have h1:=List.dropLast_concat_getLast (l:=l) (by rintro rfl;simp at h0)
        rw [List.getLast_eq_getElem] at h1
        exact h1.symm
      obtain ⟨m,hm,hx,hdm⟩:=hG.work l[l.length-1] (List.getElem_mem _)
      rw [hx] at hlast ⊢
      generalize hl2:l.dropLast=l2 at hlast ⊢
      have hlen:l.length=l2.length+1:=by rw [hlast];simp
      have hmem : ∀ x,x∈l→x∈l2∨x=m:=fun x hx=>by
        rw [hlast] at hx
        rcases List.mem_append.1 hx with h | h
        · exact .inl h
        · exact .inr (by simpa using h)
      have hsub : ∀ x,x∈l2→x∈l:=fun x hx=>by rw [hlast];exact List.mem_append_left _ hx
      rw [inR_ok (by omega) (by omega),some_bind,idxB hm,some_bind]
      cases hk:bat g.known m with
      | false =>
        rw [bif_t (by rfl)]
        refine reach_l1_eq hg hf n d l2 ⟨hG.first,hG.path,fun x hx=>hG.work x (hsub x hx),fun a b ha hno he => ?_⟩ (by omega) (by omega)
        by_cases e:a=m
        · subst e;rw [he.2.1] at hk;cases hk
        · refine hG.closed a b ha (fun hal => ?_) he
          rcases hmem _ hal with h1 | h1
          · exact hno h1
          · omega
      | true =>
        rw [bif_f (by rfl),some_bind,idxD hm,some_bind]
        obtain ⟨d',l',h1,h2⟩:=reach_l2_eq (rec:=reach_l1 fu g n) (hg m).2 fu (depsAt g m).length 0 d l2 (by omega) (by have:=(hg m).1;omega) (by omega)
        have h1:reach_l2 (reach_l1 fu g n) (depsAt g m) fu d l2 0=reach_l1 fu g n d' l':=h1
        rw [h1]
        rw [List.drop_zero] at h2
        have hc:=h2.cnt
        refine reach_l1_eq hg hf n d' l' ⟨h2.keep _ hG.first,fun k hk' => ?_,fun x hx => ?_,fun a b ha hno he => ?_⟩ (by omega) (by omega)
        · rcases h2.only k hk' with h3 | ⟨h3,h4⟩
          · exact hG.path k h3
          · rcases h2.new k h4 with h5 | ⟨b,hb,e,_,_⟩
            · obtain ⟨b,hb,e,hd⟩:=hG.work _ (hsub _ h5)
              have:k=b:=by omega
              subst this
              exact hG.path k hd
            · have:k=b:=by omega
              subst this
              exact .tail (hG.path m hdm) ⟨hm,hk,h3,hb⟩
        · rcases h2.new x hx with h3 | ⟨b,hb,e,_,hd⟩
          · obtain ⟨b,hb,e,hd⟩:=hG.work x (hsub x h3)
            exact ⟨b,hb,e,h2.keep b hd⟩
          · exact ⟨b,hb,e,hd⟩
        · by_cases e:a=m
          · subst e;exact h2.all b he.2.2.2 he.2.2.1
          · rcases h2.only a ha with h3 | ⟨_,h3⟩
            · refine h2.keep b (hG.closed a b h3 (fun hal => ?_) he)
              rcases hmem _ hal with h4 | h4
              · exact hno (h2.old _ h4)
              · omega
            · exact absurd h3 hno
noncomputable def reachZ (g:GGraph) (x:Int):Vector Bool 32:=if 0≤x∧x<32 then reachV g x.toNat else Zr.zd
theorem start_going (g:GGraph) {s:Nat} (hs:s<32):Going g s ((Zr.zd:Vector Bool 32).set s true) [(s:Int)]:=by
  have h1 : ∀ k,bat ((Zr.zd:Vector Bool 32).set s true) k=true↔s=k:=fun k=>by
    rw [bat_set hs,bat_zero]
    by_cases e:s=k<;>simp [e]
  refine ⟨(h1 s).2 rfl,fun k hk => ?_,fun x hx => ?_,fun a b ha hno he => ?_⟩
  · rw [(h1 k).1 hk];exact .refl _
  · exact ⟨s,hs,by simpa using hx,(h1 s).2 rfl⟩
  · have:=(h1 a).1 ha
    subst this
    exact absurd (by simp) hno
theorem reachD_eq {fu N:Nat} {g:GGraph} (hg:Small g N) (hf:N+40≤fu) (x:Int):reachD fu g x=some (reachZ g x):=by
  unfold reachD reachZ
  rcases int_cases x with ⟨s,hs,rfl⟩ | hx
  · rw [bif_f (dec_f (by omega)),reach_j4,bif_f (dec_f (by omega)),if_pos (by omega),reach_j1,inR_ok (by omega) (by omega),some_bind,idxB hs,some_bind,setV_ok hs,some_bind,some_bind]
    have hc:=cz_le ((Zr.zd:Vector Bool 32).set s true)
    exact reach_l1_eq hg (by omega) fu _ _ (start_going g hs) (by simp;omega) (by simp;omega)
  · rw [if_neg hx]
    by_cases h0:x<0
    · rw [bif_t (dec_t h0)];rfl
    · rw [bif_f (dec_f h0),reach_j4,bif_t (dec_t (by omega))];rfl
structure Grown (ds:List Int) (d:Vector Bool 32) (c:Bool) (d':Vector Bool 32) (c':Bool):Prop where
  keep : ∀ k,bat d k=true→bat d' k=true
  all : ∀ b:Nat,b<32→(b:Int)∈ds→bat d' b=true
  only : ∀ k,bat d' k=true→bat d k=true∨((k:Int)∈ds∧k<32)
  same:c'=false→c=false∧d'=d
  less:c'=true→c=true∨cz d'<cz d
theorem Grown.cz {ds:List Int} {d d':Vector Bool 32} {c c':Bool} (h:Grown ds d c d' c'):cz d'≤cz d:=cz_mono h.keep
def allKnown (g:GGraph) (d:Vector Bool 32) (k:Nat):Prop := ∀ j,k≤j→j<32→bat d j=true→bat g.known j=true
open Classical in
noncomputable def readyZ (g:GGraph) (x:Int):Bool:=decide ((0≤x∧x<32) ∧ ∀ j,j<32→bat (reachZ g x) j=true→bat g.known j=true)
theorem ready_l1_eq {g:GGraph} {d:Vector Bool 32} : ∀ (n m k:Nat),k+m=32→m<n → ∃ b,ready_l1 g d n k=some b∧(b=true↔allKnown g d k)
  | 0,m,k,_,h=>absurd h (by omega)
  | n+1,0,k,hk,_=>⟨true,by rw [ready_l1,bif_f (dec_f (by omega))],by simp only [true_iff];intro j h1 h2;omega⟩
  | n+1,m+1,k,hk,hn=>by
    have hk32:k<32:=by omega
    obtain ⟨b,h1,h2⟩:=ready_l1_eq (g:=g) (d:=d) n m (k+1) (by omega) (by omega)
    rw [ready_l1,bif_t (dec_t (by omega)),idxB hk32,some_bind]
    simp only [ready_j3,ready_j2,wrs k (by omega)]
    have step:(bat d k=true→bat g.known k=true)→(b=true↔allKnown g d k):=fun hs=>by
      rw [h2]
      constructor
      · intro h j hj
        by_cases e:j=k
        · subst e;intro _;exact hs
        · exact h j (by omega)
      · intro h j hj
        exact h j (by omega)
    cases hd:bat d k with
    | false=>exact ⟨b,h1,step fun h=>by rw [hd] at h;cases h⟩
    | true =>
      rw [bif_t rfl,inR_ok (by omega) (by omega),some_bind,idxB hk32,some_bind]
      cases hkn:bat g.known k with
      | true=>exact ⟨b,h1,step fun _=>hkn⟩
      | false =>
        refine ⟨false,rfl,?_⟩
        simp only [Bool.false_eq_true,false_iff]
        intro h
        have:=h k (Nat.le_refl _) hk32 hd
        rw [hkn] at this;cases this
theorem readyZ_iff {g:GGraph} {x:Int}:readyZ g x=true↔(0≤x∧x<32)∧allKnown g (reachZ g x) 0:=by
  unfold readyZ allKnown
  simp
theorem readyD_eq {fu N:Nat} {g:GGraph} (hg:Small g N) (hf:N+40≤fu) (x:Int):readyD fu g x=some (readyZ g x):=by
  unfold readyD
  rcases int_cases x with ⟨s,hs,rfl⟩ | hx
  · rw [bif_f (dec_f (by omega)),ready_j4,bif_f (dec_f (by omega)),ready_j1,reachD_eq hg hf,some_bind]
    obtain ⟨b,h1,h2⟩:=ready_l1_eq (g:=g) (d:=reachZ g s) fu 32 0 (by omega) (by omega)
    have h1:ready_l1 g (reachZ g s) fu 0=some b:=h1
    rw [h1]
    congr 1
    rw [Bool.eq_iff_iff,h2,readyZ_iff]
    simp;omega
  · have:readyZ g x=false:=by
      cases h:readyZ g x with
      | false=>rfl
      | true=>exact absurd (readyZ_iff.1 h).1 hx
    rw [this]
    by_cases h0:x<0
    · rw [bif_t (dec_t h0)];rfl
    · rw [bif_f (dec_f h0),ready_j4,bif_t (dec_t (by omega))]
end Go.Proofs.Yteilffoclpgijaa
