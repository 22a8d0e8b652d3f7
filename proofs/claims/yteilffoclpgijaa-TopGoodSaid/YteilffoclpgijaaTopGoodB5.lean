/- What the proof of TopGood rests on, part 5: rules of walks, what functions compute, and plain laws of it. -/
import Derived.Test.YteilffoclpgijaaTopGoodB4
namespace Go.Proofs.Yteilffoclpgijaa
open Go.RowKit
open Rep (rep)
set_option linter.unusedVariables false
abbrev Js := @Y_eqNil
abbrev Y5 := @Try.underlying23
abbrev Y0 := @GCluster.p0
abbrev Y6 := @GCluster.p2
abbrev Jp := @fa90_1
abbrev Yr := @GCluster.p1
abbrev Vi := @GCluster.p4
abbrev Jq := @fa90_6
abbrev V5 := @GReply.w0
abbrev Ko := @ta40
abbrev Vw := @GCluster.p5
abbrev Vj := @GCluster.p3
abbrev Jb := @GCluster.u0
abbrev Kq := @fa43_1
abbrev V7 := @GAct.p1
abbrev Ji := @GAct.p0
def cloneStrsD (fu:Nat) (x1:List ByteArray):Option (List ByteArray) :=
 (app ([]:List ByteArray) x1).bind fun l8 =>
 some l8
set_option maxRecDepth 100000 in
set_option maxHeartbeats 4000000 in
theorem cloneStrs_ok {M:Mm} {w:World} {vx1:Value} {x1:List ByteArray} {fu:Nat} {r:(List ByteArray)} (hA:Agree M w) (hvx1:repL M vx1 x1) (hz:cloneStrsD fu x1=some r) :
    Calls Try.prog 59 #[vx1] w (GivesL M w [] (fun M' u L' => ∃ v0,u=v0∧L'=[.row v0 9 1]∧repL M' v0 r)):=by
 refine Zh Try.func59 rfl 8 rfl rfl (by kernel_rfl) fun T hT => ?_
 have hT_0:T 0=vx1:=hT 0
 clear hT
 have hE:=Qg w.heap.size (lentX []) M
 have hS:St w (lentX []) M [] w:=Zs hA
 rw [cloneStrsD] at hz
 refine Qh <|Qi <|Qd (Qk ((.slice none 0 0)) rfl) ?_
 refine Qf (Qa ?_)
 refine Qh <|Qh <|Qi <|Qd (Qe (vx1) hT_0) <|Qd (Y_eqNilL rfl rfl Y4 hvx1) ?_
 refine Qf (Qa ?_)
 refine Qs rfl (fun hc2 => ?_) (fun hc2 => ?_)
 replace hz:(some [])=some r:=by rw [repL_isNil hvx1 hc2] at hz;simpa [app] using hz
 refine Qh <|Qi <|Qd (Qk ((.slice none 0 0)) rfl) ?_
 refine Qf (Qa ?_)
 replace hS:=hS.nilRow 9 1
 cases hz
 exact Q4 (Qq (Yi rfl rfl ⟨_,M,_,rfl,hE,(hS.sel (H':=[.row (.slice none 0 0) 9 1]) [0] (by decide) rfl),(.slice none 0 0),rfl,rfl,(Z5 _)⟩))
 refine Qu (Qa ?_)
 refine Qh <|Qi ?_
 refine Qt (O_bslice0R tp72 hS ?_)
 intro v4 M4 w3 hx4 hv4 hS
 replace hv4:repL M4 v4 ([]:List ByteArray):=hv4 _
 replace hvx1:=Qw hx4.1 hvx1
 refine Qd (Qe (vx1) hT_0) ?_
 obtain ⟨l8,hr7,hz⟩:=Qb hz
 obtain ⟨hy7,hs7⟩:=Z4 hr7
 refine Qt (Va (α := ByteArray) (j:=0) tp72 hS rfl rfl rfl hv4 hvx1 hy7 ?_)
 intro v7 M7 w6 hx7 hv7 hS
 rw [← hs7] at hv7
 clear hr7 hs7
 replace hE:=Qc hE (hx4.trans hx7)
 refine Qd (Qk (v7) rfl) ?_
 refine Qf (Qa ?_)
 cases hz
 exact Q4 (Yi rfl rfl ⟨_,M7,_,rfl,hE,(hS.sel (H':=[.row v7 9 1]) [0] (by decide) rfl),v7,rfl,rfl,hv7⟩)
def ownedD (fu:Nat) (x1:GEntry):Option GEntry :=
 (cloneOpsD fu x1.ops).bind fun r16 =>
 (cloneIntsD fu x1.first).bind fun r20 =>
 (cloneIntsD fu x1.deps).bind fun r25 =>
 (cloneIntsD fu x1.at_).bind fun r30 =>
 (cloneIntsD fu x1.values).bind fun r35 =>
 (some ({ x1 with ops:=r16 }:GEntry)).bind fun d40 =>
 (some ({ d40 with first:=r20 }:GEntry)).bind fun d43 =>
 (some ({ d43 with deps:=r25 }:GEntry)).bind fun d46 =>
 (some ({ d46 with at_:=r30 }:GEntry)).bind fun d49 =>
 (some ({ d49 with values:=r35 }:GEntry)).bind fun d52 =>
 (some d52).bind fun d56 =>
 some d56
set_option maxRecDepth 100000 in
set_option maxHeartbeats 4000000 in
theorem owned_ok {M:Mm} {w:World} {cx1:List Value} {x1:GEntry} {fu:Nat} {r:GEntry} (hA:Agree M w) (hcx1:rep M cx1 x1) (hz:ownedD fu x1=some r) :
    Calls Try.prog 45 #[.agg cx1.toArray] w (Gives M w (fun M' u => ∃ cs,u = .agg cs.toArray∧rep M' cs r)):=by
 refine Zh Try.func45 rfl 24 rfl rfl (by kernel_rfl) fun T hT => ?_
 have hT_0:T 0 = .agg cx1.toArray:=hT 0
 clear hT
 have hE:=Qg w.heap.size noX M
 have hS:St w noX M [] w:=Zs hA
 rw [ownedD] at hz
 refine Qh <|Qi ?_
 refine Qt (Yq (v := .agg cx1.toArray) (cs:=cx1) hT_0 rfl hS ?_)
 intro b3 w2 hb3 hS
 refine Qt (Zi tz30 hS ?_)
 intro b5 w4 hb5 hS
 have zb5:rep M (Zr.zc GEntry) (Zr.zd:GEntry):=Zr.zr
 refine Qf (Qa ?_)
 refine Qh <|Yw [.box b3 cx1 30] [16,18,20,22,24] Z7 hS fun w6 hS hG7 hR8=>wy 0 rfl (Qp V3 rfl) (fun _=>hR8) ?_
 obtain ⟨v9,ev9,hv9⟩:=(Yt (rr hcx1))
 refine Y8 1 rfl (Ql v9 Vf rfl (Ys 0 rfl) ev9) hR8 <|wy 3 rfl (Qp K9 rfl) (fun _=>hR8) ?_
 obtain ⟨v10,ev10,hv10⟩:=(Vv (rr hcx1))
 refine Y8 4 rfl (Ql v10 Zy rfl (Ys 0 rfl) ev10) hR8 <|wy 6 rfl (Qp Ky rfl) (fun _=>hR8) ?_
 obtain ⟨v11,ev11,hv11⟩:=(Vp (rr hcx1))
 refine Y8 7 rfl (Ql v11 Zy rfl (Ys 0 rfl) ev11) hR8 <|wy 9 rfl (Qp Vd rfl) (fun _=>hR8) ?_
 obtain ⟨v12,ev12,hv12⟩:=(Yg (rr hcx1))
 refine Y8 10 rfl (Ql v12 Zy rfl (Ys 0 rfl) ev12) hR8 <|wy 12 rfl (Qp Vz rfl) (fun _=>hR8) ?_
 obtain ⟨v13,ev13,hv13⟩:=(Yo (rr hcx1))
 refine Y8 13 rfl (Ql v13 Zy rfl (Ys 0 rfl) ev13) hR8 ?_
 obtain ⟨r16,hr15,hz⟩:=Qb hz
 refine w1 2 rfl (Y2 (vs:=[v9]) (rv:=(fun M' u=>repL M' u r16)) cb53 (Zp rfl) hS (cloneOps_ok hS.agree hv9 hr15) ?_)
 intro u15 M15 w14 hx15 hu15 hS
 have f15:repL M15 u15 r16:=hu15
 replace hv10:=Qw hx15.1 hv10
 replace hG7:=Qc hG7 hx15
 refine Yp hS hG7 fun hR17=>wy 15 rfl (Qp V3 rfl) (fun _=>hR17) ?_
 obtain ⟨r20,hr19,hz⟩:=Qb hz
 refine w1 5 rfl (Zt (vs:=[v10]) (L:=[]) (R:=[.box b5 (Zr.zc GEntry) 30,.box b3 cx1 30]) (rv:=(fun M' u L' => ∃ v0,u=v0∧L'=[.row v0 3 1]∧repL M' v0 r20)) cb44 (Zp rfl) hS (hS.sel [0,1] (by decide) rfl) (fun hS=>Vq hS.agree hv10 hr19) ?_)
 rintro u19 M19 w18 L19 hx19 ⟨v0_19,rfl,hL19,f19_0⟩ hS
 replace hS:=hS _ hL19
 replace hv11:=Qw (hx15.1.trans hx19.1) hv11
 replace hG7:=Qc hG7 hx19
 refine Yp hS hG7 fun hR22 => ?_
 obtain ⟨r25,hr24,hz⟩:=Qb hz
 refine w1 8 rfl (Zt (vs:=[v11]) (L:=[]) (R:=[.row u19 3 1,.box b5 (Zr.zc GEntry) 30,.box b3 cx1 30]) (rv:=(fun M' u L' => ∃ v0,u=v0∧L'=[.row v0 3 1]∧repL M' v0 r25)) cb44 (Zp rfl) hS (hS.sel [0,1,2] (by decide) rfl) (fun hS=>Vq hS.agree hv11 hr24) ?_)
 rintro u24 M24 w23 L24 hx24 ⟨v0_24,rfl,hL24,f24_0⟩ hS
 replace hS:=hS _ hL24
 replace hv12:=Qw (hx15.1.trans (hx19.1.trans hx24.1)) hv12
 replace hG7:=Qc hG7 hx24
 refine Yp hS hG7 fun hR27 => ?_
 obtain ⟨r30,hr29,hz⟩:=Qb hz
 refine w1 11 rfl (Zt (vs:=[v12]) (L:=[]) (R:=[.row u24 3 1,.row u19 3 1,.box b5 (Zr.zc GEntry) 30,.box b3 cx1 30]) (rv:=(fun M' u L' => ∃ v0,u=v0∧L'=[.row v0 3 1]∧repL M' v0 r30)) cb44 (Zp rfl) hS (hS.sel [0,1,2,3] (by decide) rfl) (fun hS=>Vq hS.agree hv12 hr29) ?_)
 rintro u29 M29 w28 L29 hx29 ⟨v0_29,rfl,hL29,f29_0⟩ hS
 replace hS:=hS _ hL29
 replace hv13:=Qw (hx15.1.trans (hx19.1.trans (hx24.1.trans hx29.1))) hv13
 replace hG7:=Qc hG7 hx29
 refine Yp hS hG7 fun hR32 => ?_
 obtain ⟨r35,hr34,hz⟩:=Qb hz
 refine w1 14 rfl (Zt (vs:=[v13]) (L:=[]) (R:=[.row u29 3 1,.row u24 3 1,.row u19 3 1,.box b5 (Zr.zc GEntry) 30,.box b3 cx1 30]) (rv:=(fun M' u L' => ∃ v0,u=v0∧L'=[.row v0 3 1]∧repL M' v0 r35)) cb44 (Zp rfl) hS (hS.sel [0,1,2,3,4] (by decide) rfl) (fun hS=>Vq hS.agree hv13 hr34) ?_)
 rintro u34 M34 w33 L34 hx34 ⟨v0_34,rfl,hL34,f34_0⟩ hS
 replace hS:=hS _ hL34
 replace hcx1:=Rep.mono (hx15.1.trans (hx19.1.trans (hx24.1.trans (hx29.1.trans hx34.1)))) hcx1
 replace zb5:=Rep.mono (hx15.1.trans (hx19.1.trans (hx24.1.trans (hx29.1.trans hx34.1)))) zb5
 replace f15:=Qw (hx19.1.trans (hx24.1.trans (hx29.1.trans hx34.1))) f15
 replace f19_0:=Qw (hx24.1.trans (hx29.1.trans hx34.1)) f19_0
 replace f24_0:=Qw (hx29.1.trans hx34.1) f24_0
 replace f29_0:=Qw hx34.1 f29_0
 replace hE:=Qc hE (hx15.trans (hx19.trans (hx24.trans (hx29.trans hx34))))
 replace hG7:=Qc hG7 hx34
 refine Yp hS hG7 fun hR37 => ?_
 obtain ⟨d40,hd39,hz⟩:=Qb hz
 refine w1 16 rfl (Q7 5 1 hS rfl hcx1 rfl rfl (Q2 f15) (Za f15) rfl (GEntry.u1 (rr hcx1) (Lf (Yt (rr hcx1)) (Q2 f15))) hd39 ?_)
 intro cs39 w38 hb39 ha39 hs39 hS
 refine ⟨nB,?_⟩
 refine wy 17 rfl (Qp K9 rfl) nB ?_
 obtain ⟨d43,hd42,hz⟩:=Qb hz
 refine w1 18 rfl (Q7 5 1 hS rfl hb39 rfl rfl (Q2 f19_0) (Za f19_0) rfl (GEntry.u2 (rr hb39) (Lf (Vv (rr hb39)) (Q2 f19_0))) hd42 ?_)
 intro cs42 w41 hb42 ha42 hs42 hS
 refine ⟨nB,?_⟩
 refine wy 19 rfl (Qp Ky rfl) nB ?_
 obtain ⟨d46,hd45,hz⟩:=Qb hz
 refine w1 20 rfl (Q7 5 1 hS rfl hb42 rfl rfl (Q2 f24_0) (Za f24_0) rfl (GEntry.u3 (rr hb42) (Lf (Vp (rr hb42)) (Q2 f24_0))) hd45 ?_)
 intro cs45 w44 hb45 ha45 hs45 hS
 refine ⟨nB,?_⟩
 refine wy 21 rfl (Qp Vd rfl) nB ?_
 obtain ⟨d49,hd48,hz⟩:=Qb hz
 refine w1 22 rfl (Q7 5 1 hS rfl hb45 rfl rfl (Q2 f29_0) (Za f29_0) rfl (Jg (rr hb45) (Lf (Yg (rr hb45)) (Q2 f29_0))) hd48 ?_)
 intro cs48 w47 hb48 ha48 hs48 hS
 refine ⟨nB,?_⟩
 refine wy 23 rfl (Qp Vz rfl) nB ?_
 obtain ⟨d52,hd51,hz⟩:=Qb hz
 refine w1 24 rfl (Q7 5 1 hS rfl hb48 rfl rfl (Q2 f34_0) (Za f34_0) rfl (Jh (rr hb48) (Lf (Yo (rr hb48)) (Q2 f34_0))) hd51 ?_)
 intro cs51 w50 hb51 ha51 hs51 hS
 refine ⟨nB,?_⟩
 refine wd (Qa ?_)
 refine Qh <|Qi ?_
 have ha53:=(rr hb51)
 refine Qd (Ze ta30 rfl (hS.bvB 5 rfl) (Rep.len ha53)) ?_
 obtain ⟨d56,hd55,hz⟩:=Qb hz
 refine Qt (Q7 4 6 hS rfl zb5 rfl rfl ha53 rfl rfl (Lf (rr zb5) ha53) hd55 ?_)
 intro cs55 w54 hb55 ha55 hs55 hS
 refine Qf (Qa ?_)
 cases hz
 exact Q4 (Jt (j:=4) rfl rfl (by rw [Rep.len hb55];exact ta30) hS rfl (Zk (Qo (Qo (Qo (Qo (Qo (Qo hS)))))) hE ⟨_,rfl,hb55⟩))
def clNode_l1 (fu:Nat) (x1:GCluster) (x2:Int):Nat→GNode→Int→Option (GNode × Bool)
 | 0,_,_=>none
 | n+1,d33,y34 =>
 (bif decide (y34<32) then
 (inR y34 32).bind fun _ =>
 (idxV d33.entries y34).bind fun x42 =>
 (ownedD fu x42).bind fun r47 =>
 (inR y34 32).bind fun _ =>
 (idxV d33.entries y34).bind fun x52 =>
 (setV d33.entries y34 r47).bind fun a54 =>
 (some ({ d33 with entries:=a54 }:GNode)).bind fun d56 =>
 (clNode_l1 fu x1 x2 n) d56 (IntKind.wrap .i64 (y34+1))
 else
 (inR x2 6).bind fun _ =>
 (idxV x1.down x2).bind fun x63 =>
 (some d33).bind fun d67 =>
 some (d67,x63))
def clNode_j1 (fu:Nat) (x1:GCluster) (x2:Int) (d9:GNode):Option (GNode × Bool) :=
 (inR x2 6).bind fun _ =>
 (idxV x1.nodes x2).bind fun x13 =>
 (some x13).bind fun d20 =>
 (cloneIntsD fu d20.order).bind fun r24 =>
 (some ({ d20 with order:=r24 }:GNode)).bind fun d28 =>
 clNode_l1 fu x1 x2 fu d28 0
def clNode_j2 (fu:Nat) (x1:GCluster) (x2:Int) (c73:Bool):Option (GNode × Bool) :=
 (bif c73 then
 (some ({ entries:=Zr.zd,order:=Zr.zd,values:=Zr.zd }:GNode)).bind fun d77 =>
 (some d77).bind fun d80 =>
 some (d80,false)
 else
 clNode_j1 fu x1 x2 (Zr.zd:GNode))
def clNodeD (fu:Nat) (x1:GCluster) (x2:Int):Option (GNode × Bool) :=
 (bif decide (x2<0) then
 clNode_j2 fu x1 x2 true
 else
 clNode_j2 fu x1 x2 (decide (x2≥6)))
set_option maxRecDepth 100000 in
set_option maxHeartbeats 4000000 in
theorem clNode_ok {M:Mm} {w:World} {bx1:Nat} {cx1:List Value} {x1:GCluster} {x2:Int} {fu:Nat} {r:GNode × Bool} (hS:St w (lentX [.box bx1 cx1 90]) M [.box bx1 cx1 90] w) (hcx1:rep M cx1 x1) (hz:clNodeD fu x1 x2=some r) :
    Calls Try.prog 17 #[.pointer (some ⟨bx1,0,none⟩),.int .i64 x2] w (GivesL M w [.box bx1 cx1 90] (fun M' u L' => ∃ c0,u = .tuple #[.agg c0.toArray,.bool r.2]∧L'=[.box bx1 cx1 90]∧rep M' c0 r.1)):=by
 refine Zh Try.func17 rfl 48 rfl rfl (by kernel_rfl) fun T hT => ?_
 have hT_0:T 0 = .pointer (some ⟨bx1,0,none⟩):=hT 0
 have hT_1:T 1 = .int .i64 x2:=hT 1
 clear hT
 have hE:=Qg w.heap.size (lentX [.box bx1 cx1 90]) M
 rw [clNodeD] at hz
 refine Qh <|Qi ?_
 refine Qt (Zi tz34 hS ?_)
 intro b4 w3 hb4 hS
 have zb4:rep M (Zr.zc GNode) (Zr.zd:GNode):=Zr.zr
 refine Qd (Qk (.bool false) rfl) ?_
 refine Qf (Qa ?_)
 refine Qz (fun T' w' => ∃ M6 cs8 d9,Mm.ext w.heap.size (lentX [.box bx1 cx1 90]) M M6∧St w (lentX [.box bx1 cx1 90]) M6 [.box b4 cs8 34,.box bx1 cx1 90] w'∧rep M6 cs8 d9∧T' 0 = .pointer (some ⟨bx1,0,none⟩)∧T' 1 = .int .i64 x2∧T' 4 = .pointer (some ⟨b4,0,none⟩)∧clNode_j1 fu x1 x2 d9=some r) ?_ ?_
 have hF69:=Qg w.heap.size (lentX [.box bx1 cx1 90]) M
 refine Qz (fun T' w' => ∃ M71 c73,Mm.ext w.heap.size (lentX [.box bx1 cx1 90]) M M71∧St w (lentX [.box bx1 cx1 90]) M71 [.box b4 (Zr.zc GNode) 34,.box bx1 cx1 90] w'∧T' 0 = .pointer (some ⟨bx1,0,none⟩)∧T' 1 = .int .i64 x2∧T' 4 = .pointer (some ⟨b4,0,none⟩)∧T' 17 = .bool c73∧clNode_j2 fu x1 x2 c73=some r) ?_ ?_
 have hF81:=Qg w.heap.size (lentX [.box bx1 cx1 90]) M
 refine Qi <|Qd (Qe (.pointer (some ⟨bx1,0,none⟩)) hT_0) <|Qd (Js rfl rfl Y5) <|Qd (Qe (.bool false) rfl) <|Qj rfl rfl (Qe (.int .i64 x2) hT_1) <|Qj rfl rfl (Zq rfl rfl) <|Q1 2 rfl ?_
 rcases ic hz with ⟨hc82,hz⟩ | ⟨hc82,hz⟩<;>rw [hc82]
 refine Q1 3 rfl ?_
 refine Qf (Qa ?_)
 exact ⟨M,true,hF81,hS,hT_0,hT_1,rfl,rfl,hz⟩
 refine Qj rfl rfl (Qe (.int .i64 x2) hT_1) <|Qj rfl rfl (Ve rfl rfl) <|Qd (Zg (.bool (decide (x2≥6))) rfl rfl) ?_
 refine Qf (Qa ?_)
 exact ⟨M,(decide (x2≥6)),hF81,hS,hT_0,hT_1,rfl,rfl,hz⟩
 rintro T72 w70 ⟨M71,c73,hx74,hS,hT72_0,hT72_1,hT72_4,hT72_17,hz⟩
 replace zb4:=Rep.mono hx74.1 zb4
 replace hE:=Qc hE hx74
 replace hF69:=Qc hF69 hx74
 rw [clNode_j2] at hz
 refine Qs hT72_17 (fun hc75 => ?_) (fun hc75 => ?_)
 replace hz:=Qm hz hc75
 refine Qh <|Qi ?_
 obtain ⟨d77,hd76,hz⟩:=Qb hz
 obtain ⟨cs76,hf76,ha76⟩ : ∃ cs,fillZ (([(0,192),(192,1),(193,8)]:List (Nat × Nat))[·]?) (Zr.zc GNode) []=some cs∧rep M71 cs d77:=⟨_,Z8,Z9 (x:=({ entries:=Zr.zd,order:=Zr.zd,values:=Zr.zd }:GNode)) (Zr.zr:rep M71 (Zr.zc GNode) (Zr.zd:GNode)) hd76⟩
 refine Qd (Zx [] tb34 Vk hf76) ?_
 obtain ⟨d80,hd79,hz⟩:=Qb hz
 refine Qt (Q7 0 201 hS rfl zb4 hT72_4 rfl ha76 rfl rfl (Lf (rr zb4) ha76) hd79 ?_)
 intro cs79 w78 hb79 ha79 hs79 hS
 refine Qd (Qk (.bool false) rfl) ?_
 refine Qf (Qa ?_)
 cases hz
 exact Q4 (Qq (R_ct (j:=0) rfl hT72_4 rfl (by rw [Rep.len hb79];exact Vh) hS rfl ⟨_,M71,_,rfl,hE,(hS.sel (H':=[.box bx1 cx1 90]) [1] (by decide) rfl),cs79,rfl,rfl,hb79⟩))
 replace hz:=Qn hz hc75
 refine Qu (Qa ?_)
 exact ⟨M71,(Zr.zc GNode),(Zr.zd:GNode),hF69,hS,zb4,hT72_0,hT72_1,hT72_4,hz⟩
 rintro T7 w5 ⟨M6,cs8,d9,hx10,hS,hb8,hT7_0,hT7_1,hT7_4,hz⟩
 replace hcx1:=Rep.mono hx10.1 hcx1
 rw [clNode_j1] at hz
 refine Qh <|Qi <|Qd (Qe (.pointer (some ⟨bx1,0,none⟩)) hT7_0) <|Qd (Qe (.int .i64 x2) hT7_1) <|Qd (Q6 rfl) <|Qd (Qp fa90_0 rfl) ?_
 obtain ⟨u11,hx12,hz⟩:=Qb hz
 obtain ⟨hx12a,hx12b⟩:=Qv hx12
 refine Qd (Zd ia86 rfl rfl hx12a hx12b) ?_
 obtain ⟨x13,hx14,hz⟩:=Qb hz
 have ha15:=(vp (k:=201) rfl rfl (Y0 (rr hcx1)) hx14)
 refine Qd (Ze Vh rfl (hS.bvB 1 rfl) (Rep.len ha15)) ?_
 refine Qt (Zi tz34 hS ?_)
 intro b17 w16 hb17 hS
 have zb17:rep M6 (Zr.zc GNode) (Zr.zd:GNode):=Zr.zr
 obtain ⟨d20,hd19,hz⟩:=Qb hz
 refine Qt (Q7 0 201 hS rfl zb17 rfl rfl ha15 rfl rfl (Lf (rr zb17) ha15) hd19 ?_)
 intro cs19 w18 hb19 ha19 hs19 hS
 refine Qf (Qa ?_)
 refine Qh <|Qi <|Qd (Qp K8 rfl) ?_
 obtain ⟨v21,ev21,hv21⟩:=(V9 (rr hb19))
 refine Qd (Ql v21 Zy rfl (hS.bvB 0 rfl) ev21) ?_
 obtain ⟨r24,hr23,hz⟩:=Qb hz
 refine Qt (Zt (vs:=[v21]) (L:=[]) (R:=[.box b17 cs19 34,.box b4 cs8 34,.box bx1 cx1 90]) (rv:=(fun M' u L' => ∃ v0,u=v0∧L'=[.row v0 3 1]∧repL M' v0 r24)) cb44 (Zp rfl) hS (hS.sel [0,1,2] (by decide) rfl) (fun hS=>Vq hS.agree hv21 hr23) ?_)
 rintro u23 M23 w22 L23 hx23 ⟨v0_23,rfl,hL23,f23_0⟩ hS
 replace hS:=hS _ hL23
 replace hcx1:=Rep.mono hx23.1 hcx1
 replace hb8:=Rep.mono hx23.1 hb8
 replace hb19:=Rep.mono hx23.1 hb19
 replace hE:=Qc hE (hx10.trans hx23)
 refine Qd (Qp K8 rfl) ?_
 obtain ⟨d28,hd27,hz⟩:=Qb hz
 refine Qt (Q7 1 1 hS rfl hb19 rfl rfl (Q2 f23_0) (Za f23_0) rfl (GNode.u1 (rr hb19) (Lf (V9 (rr hb19)) (Q2 f23_0))) hd27 ?_)
 intro cs27 w26 hb27 ha27 hs27 hS
 refine Qf (Qa ?_)
 refine Qh <|Qh <|Qi <|Qd (Qe (.int .i64 0) rfl) ?_
 refine Qf (Qa ?_)
 refine Qy ?_
 refine Z0 (fun k36 T' w' => ∃ M30 cs32 d33 y34,Mm.ext w.heap.size (lentX [.box bx1 cx1 90]) M23 M30∧St w (lentX [.box bx1 cx1 90]) M30 [.row u23 3 1,.box b17 cs32 34,.box b4 cs8 34,.box bx1 cx1 90] w'∧rep M30 cs32 d33∧T' 0 = .pointer (some ⟨bx1,0,none⟩)∧T' 1 = .int .i64 x2∧T' 4 = .pointer (some ⟨b4,0,none⟩)∧T' 6 = .pointer (some ⟨b17,0,none⟩)∧T' 29 = .int .i64 y34∧clNode_l1 fu x1 x2 k36 d33 y34=some r) fu ?_ ?_ ?_
 exact ⟨M23,cs27,d28,(0:Int),(Qg _ _ _),hS,hb27,hT7_0,hT7_1,hT7_4,rfl,rfl,hz⟩
 rintro T' w' ⟨_,_,_,_,_,_,_,_,_,_,_,_,hz⟩
 rw [clNode_l1] at hz
 cases hz
 intro k36
 rintro T31 w29 ⟨M30,cs32,d33,y34,hx38,hS,hb32,hT31_0,hT31_1,hT31_4,hT31_6,hT31_29,hz⟩
 replace hcx1:=Rep.mono hx38.1 hcx1
 replace hb8:=Rep.mono hx38.1 hb8
 replace hE:=Qc hE hx38
 have hF37:=hx38
 rw [clNode_l1] at hz
 obtain ⟨rec35,hrec35⟩ : ∃ f,f=clNode_l1 fu x1 x2 k36:=⟨_,rfl⟩
 rw [← hrec35] at hz
 refine Qh <|Qi <|Qd (Zq hT31_29 rfl) ?_
 refine Qf (Qa ?_)
 refine Qh ?_
 refine Qs rfl (fun hc39 => ?_) (fun hc39 => ?_)
 replace hz:=Qm hz hc39
 refine Qu (Qa ?_)
 refine Qh <|Qy <|Qh <|Qi <|Qd (Qe (.int .i64 y34) hT31_29) <|Qd (Qk (.int .i64 y34) rfl) ?_
 refine Qf (Qa ?_)
 refine Qi <|Q1 2 rfl <|Qd (Qp V2 hT31_6) ?_
 obtain ⟨u40,hx41,hz⟩:=Qb hz
 obtain ⟨hx41a,hx41b⟩:=Qv hx41
 refine Qd (Zd ia31 rfl rfl hx41a hx41b) ?_
 obtain ⟨x42,hx43,hz⟩:=Qb hz
 have ha44:=(vp (k:=6) rfl rfl (Q5 (rr hb32)) hx43)
 refine Qd (Ze ta30 rfl (hS.bvB 1 rfl) (Rep.len ha44)) ?_
 obtain ⟨r47,hr46,hz⟩:=Qb hz
 refine Qt (Y2 (vs:=[.agg (sl cs32 (0+0+Int.toNat y34*6) 6).toArray]) (rv:=(fun M' u => ∃ cs,u = .agg cs.toArray∧rep M' cs r47)) cb45 (Zp rfl) hS (owned_ok hS.agree ha44 hr46) ?_)
 intro u46 M46 w45 hx46 hu46 hS
 obtain ⟨c46,hq46,f46⟩:=hu46
 subst hq46
 replace hb32:=Rep.mono hx46.1 hb32
 replace hF37:=Qc hF37 hx46
 refine Qd (Qp V2 hT31_6) ?_
 obtain ⟨u48,hx49,hz⟩:=Qb hz
 obtain ⟨hx49a,hx49b⟩:=Qv hx49
 refine Qd (Zd ia31 rfl rfl hx49a hx49b) ?_
 obtain ⟨x52,hx53,hz⟩:=Qb hz
 obtain ⟨a54,hx55,hz⟩:=Qb hz
 obtain ⟨d56,hd51,hz⟩:=Qb hz
 refine Qt (Q7 1 6 hS rfl hb32 rfl rfl f46 rfl rfl (Yz (rr hb32) (vu (k:=6) rfl rfl (Q5 (rr hb32)) (Lf (vp (k:=6) rfl rfl (Q5 (rr hb32)) hx53) f46) hx55)) hd51 ?_)
 intro cs51 w50 hb51 ha51 hs51 hS
 refine Qf (Q8 ?_)
 refine (Qa ?_)
 refine Qi <|Qd (Z2 hT31_29 rfl) <|Qd (Qe (.int .i64 (IntKind.wrap .i64 (y34+1))) rfl) ?_
 refine Qf (Qa ?_)
 exact ⟨M46,cs51,d56,(IntKind.wrap .i64 (y34+1)),hF37,hS,hb51,hT31_0,hT31_1,hT31_4,hT31_6,rfl,(by rw [← hrec35];exact hz)⟩
 replace hz:=Qn hz hc39
 refine Zu <|Q0 <|Q0 <|Zv ?_
 refine (Qa ?_)
 refine Qh <|Yw [.box b17 cs32 34,.box bx1 cx1 90] [] Z7 hS fun w57 hS hG58 hR59 => ?_
 have ha60:=(rr hb32)
 refine Y8 0 rfl (Ze Vh hT31_6 (Ys 0 rfl) (Rep.len ha60)) hR59 <|wy 1 rfl (Qe (.pointer (some ⟨bx1,0,none⟩)) hT31_0) (fun _=>hR59) <|wy 2 rfl (Qe (.int .i64 x2) hT31_1) (fun _=>hR59) <|wy 3 rfl (Q6 rfl) (fun _=>hR59) <|wy 4 rfl (Qp fa90_2 rfl) (fun _=>hR59) ?_
 obtain ⟨u61,hx62,hz⟩:=Qb hz
 obtain ⟨hx62a,hx62b⟩:=Qv hx62
 refine wy 5 rfl (Zd Ju rfl rfl hx62a hx62b) (fun _=>hR59) ?_
 obtain ⟨x63,hx64,hz⟩:=Qb hz
 refine Y8 6 rfl (Ql (.bool x63) Jm rfl (Ys 1 rfl) (vp (k:=1) rfl rfl (Y6 (rr hcx1)) hx64)) hR59 ?_
 obtain ⟨d67,hd66,hz⟩:=Qb hz
 refine w1 7 rfl (Q7 2 201 hS rfl hb8 hT31_4 rfl ha60 rfl rfl (Lf (rr hb8) ha60) hd66 ?_)
 intro cs66 w65 hb66 ha66 hs66 hS
 refine Yp hS hG58 fun hR68=>wy 8 rfl (Qk (.bool x63) rfl) (fun _=>hR68) ?_
 refine wd (Qa ?_)
 cases hz
 exact Q4 (R_ct (j:=2) rfl hT31_4 rfl (by rw [Rep.len hb66];exact Vh) hS rfl ⟨_,M30,_,rfl,hE,(hS.sel (H':=[.box bx1 cx1 90]) [3] (by decide) rfl),cs66,rfl,rfl,hb66⟩)
def clLog_j1 (x1:GCluster) (x2:Int):Option ByteArray :=
 (inR x2 6).bind fun _ =>
 (idxV x1.logs x2).bind fun x9 =>
 some x9
def clLog_j2 (x1:GCluster) (x2:Int) (c15:Bool):Option ByteArray :=
 (bif c15 then
 some (⟨#[]⟩:ByteArray)
 else
 clLog_j1 x1 x2)
def clLogD (fu:Nat) (x1:GCluster) (x2:Int):Option ByteArray :=
 (bif decide (x2<0) then
 clLog_j2 x1 x2 true
 else
 clLog_j2 x1 x2 (decide (x2≥6)))
set_option maxRecDepth 100000 in
set_option maxHeartbeats 4000000 in
theorem clLog_ok {M:Mm} {w:World} {bx1:Nat} {cx1:List Value} {x1:GCluster} {x2:Int} {fu:Nat} {r:ByteArray} (hS:St w (lentX [.box bx1 cx1 90]) M [.box bx1 cx1 90] w) (hcx1:rep M cx1 x1) (hz:clLogD fu x1 x2=some r) :
    Calls Try.prog 38 #[.pointer (some ⟨bx1,0,none⟩),.int .i64 x2] w (GivesL M w [.box bx1 cx1 90] (fun M' u L'=>u = .string r∧L'=[.box bx1 cx1 90])):=by
 refine Zh Try.func38 rfl 21 rfl rfl (by kernel_rfl) fun T hT => ?_
 have hT_0:T 0 = .pointer (some ⟨bx1,0,none⟩):=hT 0
 have hT_1:T 1 = .int .i64 x2:=hT 1
 clear hT
 have hE:=Qg w.heap.size (lentX [.box bx1 cx1 90]) M
 rw [clLogD] at hz
 refine Qh <|Qi <|Qd (Qk (.string (⟨#[]⟩:ByteArray)) rfl) ?_
 refine Qf (Qa ?_)
 refine Qz (fun T' w' => ∃ M4,Mm.ext w.heap.size (lentX [.box bx1 cx1 90]) M M4∧St w (lentX [.box bx1 cx1 90]) M4 [.box bx1 cx1 90] w'∧T' 0 = .pointer (some ⟨bx1,0,none⟩)∧T' 1 = .int .i64 x2∧clLog_j1 x1 x2=some r) ?_ ?_
 have hF11:=Qg w.heap.size (lentX [.box bx1 cx1 90]) M
 refine Qz (fun T' w' => ∃ M13 c15,Mm.ext w.heap.size (lentX [.box bx1 cx1 90]) M M13∧St w (lentX [.box bx1 cx1 90]) M13 [.box bx1 cx1 90] w'∧T' 0 = .pointer (some ⟨bx1,0,none⟩)∧T' 1 = .int .i64 x2∧T' 14 = .bool c15∧clLog_j2 x1 x2 c15=some r) ?_ ?_
 have hF18:=Qg w.heap.size (lentX [.box bx1 cx1 90]) M
 refine Qi <|Qd (Qe (.pointer (some ⟨bx1,0,none⟩)) hT_0) <|Qd (Js rfl rfl Y5) <|Qd (Qe (.bool false) rfl) <|Qj rfl rfl (Qe (.int .i64 x2) hT_1) <|Qj rfl rfl (Zq rfl rfl) <|Q1 2 rfl ?_
 rcases ic hz with ⟨hc19,hz⟩ | ⟨hc19,hz⟩<;>rw [hc19]
 refine Q1 3 rfl ?_
 refine Qf (Qa ?_)
 exact ⟨M,true,hF18,hS,hT_0,hT_1,rfl,hz⟩
 refine Qj rfl rfl (Qe (.int .i64 x2) hT_1) <|Qj rfl rfl (Ve rfl rfl) <|Qd (Zg (.bool (decide (x2≥6))) rfl rfl) ?_
 refine Qf (Qa ?_)
 exact ⟨M,(decide (x2≥6)),hF18,hS,hT_0,hT_1,rfl,hz⟩
 rintro T14 w12 ⟨M13,c15,hx16,hS,hT14_0,hT14_1,hT14_14,hz⟩
 replace hE:=Qc hE hx16
 replace hF11:=Qc hF11 hx16
 rw [clLog_j2] at hz
 refine Qs hT14_14 (fun hc17 => ?_) (fun hc17 => ?_)
 replace hz:=Qm hz hc17
 refine Qh <|Qi <|Qd (Qk (.string (⟨#[]⟩:ByteArray)) rfl) ?_
 refine Qf (Qa ?_)
 cases hz
 exact Q4 (Qq (Yi rfl rfl ⟨_,M13,_,rfl,hE,(hS.sel (H':=[.box bx1 cx1 90]) [0] (by decide) rfl),rfl,rfl⟩))
 replace hz:=Qn hz hc17
 refine Qu (Qa ?_)
 exact ⟨M13,hF11,hS,hT14_0,hT14_1,hz⟩
 rintro T5 w3 ⟨M4,hx6,hS,hT5_0,hT5_1,hz⟩
 replace hcx1:=Rep.mono hx6.1 hcx1
 replace hE:=Qc hE hx6
 rw [clLog_j1] at hz
 refine Qh <|Qi <|Qd (Qe (.pointer (some ⟨bx1,0,none⟩)) hT5_0) <|Qd (Qe (.int .i64 x2) hT5_1) <|Qd (Q6 rfl) <|Qd (Qp Jp rfl) ?_
 obtain ⟨u7,hx8,hz⟩:=Qb hz
 obtain ⟨hx8a,hx8b⟩:=Qv hx8
 refine Qd (Zd ia87 rfl rfl hx8a hx8b) ?_
 obtain ⟨x9,hx10,hz⟩:=Qb hz
 refine Qd (Ql (.string x9) ts9 rfl (hS.bvB 0 rfl) (vp (k:=1) rfl rfl (Yr (rr hcx1)) hx10).1) <|Qd (Qk (.string x9) rfl) ?_
 refine Qf (Qa ?_)
 cases hz
 exact Q4 (Yi rfl rfl ⟨_,M4,_,rfl,hE,(hS.sel (H':=[.box bx1 cx1 90]) [0] (by decide) rfl),rfl,rfl⟩)
def clCase_j1 (fu:Nat) (x1:GCluster) (x2:Int) (d9:GCase):Option GCase :=
 (inR x2 32).bind fun _ =>
 (idxV x1.cases x2).bind fun x13 =>
 (some x13).bind fun d20 =>
 (cloneOpsD fu d20.ops).bind fun r28 =>
 (cloneIntsD fu d20.deps).bind fun r32 =>
 (some ({ d20 with ops:=r28 }:GCase)).bind fun d37 =>
 (some ({ d37 with deps:=r32 }:GCase)).bind fun d40 =>
 (some d40).bind fun d44 =>
 some d44
def clCase_j2 (fu:Nat) (x1:GCluster) (x2:Int) (c49:Bool):Option GCase :=
 (bif c49 then
 (some ({ begun:=Zr.zd,fixed:=Zr.zd,ops:=Zr.zd,told:=Zr.zd,known:=Zr.zd,deps:=Zr.zd,has:=Zr.zd,values:=Zr.zd }:GCase)).bind fun d53 =>
 (some d53).bind fun d56 =>
 some d56
 else
 clCase_j1 fu x1 x2 (Zr.zd:GCase))
def clCaseD (fu:Nat) (x1:GCluster) (x2:Int):Option GCase :=
 (bif decide (x2<0) then
 clCase_j2 fu x1 x2 true
 else
 clCase_j2 fu x1 x2 (decide (x2≥32)))
set_option maxRecDepth 100000 in
set_option maxHeartbeats 4000000 in
theorem clCase_ok {M:Mm} {w:World} {bx1:Nat} {cx1:List Value} {x1:GCluster} {x2:Int} {fu:Nat} {r:GCase} (hS:St w (lentX [.box bx1 cx1 90]) M [.box bx1 cx1 90] w) (hcx1:rep M cx1 x1) (hz:clCaseD fu x1 x2=some r) :
    Calls Try.prog 20 #[.pointer (some ⟨bx1,0,none⟩),.int .i64 x2] w (GivesL M w [.box bx1 cx1 90] (fun M' u L' => ∃ c0,u = .agg c0.toArray∧L'=[.box bx1 cx1 90]∧rep M' c0 r)):=by
 refine Zh Try.func20 rfl 32 rfl rfl (by kernel_rfl) fun T hT => ?_
 have hT_0:T 0 = .pointer (some ⟨bx1,0,none⟩):=hT 0
 have hT_1:T 1 = .int .i64 x2:=hT 1
 clear hT
 have hE:=Qg w.heap.size (lentX [.box bx1 cx1 90]) M
 rw [clCaseD] at hz
 refine Qh <|Qi ?_
 refine Qt (Zi tz49 hS ?_)
 intro b4 w3 hb4 hS
 have zb4:rep M (Zr.zc GCase) (Zr.zd:GCase):=Zr.zr
 refine Qf (Qa ?_)
 refine Qz (fun T' w' => ∃ M6 cs8 d9,Mm.ext w.heap.size (lentX [.box bx1 cx1 90]) M M6∧St w (lentX [.box bx1 cx1 90]) M6 [.box b4 cs8 49,.box bx1 cx1 90] w'∧rep M6 cs8 d9∧T' 0 = .pointer (some ⟨bx1,0,none⟩)∧T' 1 = .int .i64 x2∧T' 4 = .pointer (some ⟨b4,0,none⟩)∧clCase_j1 fu x1 x2 d9=some r) ?_ ?_
 have hF45:=Qg w.heap.size (lentX [.box bx1 cx1 90]) M
 refine Qz (fun T' w' => ∃ M47 c49,Mm.ext w.heap.size (lentX [.box bx1 cx1 90]) M M47∧St w (lentX [.box bx1 cx1 90]) M47 [.box b4 (Zr.zc GCase) 49,.box bx1 cx1 90] w'∧T' 0 = .pointer (some ⟨bx1,0,none⟩)∧T' 1 = .int .i64 x2∧T' 4 = .pointer (some ⟨b4,0,none⟩)∧T' 15 = .bool c49∧clCase_j2 fu x1 x2 c49=some r) ?_ ?_
 have hF57:=Qg w.heap.size (lentX [.box bx1 cx1 90]) M
 refine Qi <|Qd (Qe (.pointer (some ⟨bx1,0,none⟩)) hT_0) <|Qd (Js rfl rfl Y5) <|Qd (Qe (.bool false) rfl) <|Qj rfl rfl (Qe (.int .i64 x2) hT_1) <|Qj rfl rfl (Zq rfl rfl) <|Q1 2 rfl ?_
 rcases ic hz with ⟨hc58,hz⟩ | ⟨hc58,hz⟩<;>rw [hc58]
 refine Q1 3 rfl ?_
 refine Qf (Qa ?_)
 exact ⟨M,true,hF57,hS,hT_0,hT_1,rfl,rfl,hz⟩
 refine Qj rfl rfl (Qe (.int .i64 x2) hT_1) <|Qj rfl rfl (Ve rfl rfl) <|Qd (Zg (.bool (decide (x2≥32))) rfl rfl) ?_
 refine Qf (Qa ?_)
 exact ⟨M,(decide (x2≥32)),hF57,hS,hT_0,hT_1,rfl,rfl,hz⟩
 rintro T48 w46 ⟨M47,c49,hx50,hS,hT48_0,hT48_1,hT48_4,hT48_15,hz⟩
 replace zb4:=Rep.mono hx50.1 zb4
 replace hE:=Qc hE hx50
 replace hF45:=Qc hF45 hx50
 rw [clCase_j2] at hz
 refine Qs hT48_15 (fun hc51 => ?_) (fun hc51 => ?_)
 replace hz:=Qm hz hc51
 refine Qh <|Qi ?_
 obtain ⟨d53,hd52,hz⟩:=Qb hz
 obtain ⟨cs52,hf52,ha52⟩ : ∃ cs,fillZ (([(0,1),(1,1),(2,1),(3,6),(9,6),(15,1),(16,4),(20,4)]:List (Nat × Nat))[·]?) (Zr.zc GCase) []=some cs∧rep M47 cs d53:=⟨_,Z8,Z9 (x:=({ begun:=Zr.zd,fixed:=Zr.zd,ops:=Zr.zd,told:=Zr.zd,known:=Zr.zd,deps:=Zr.zd,has:=Zr.zd,values:=Zr.zd }:GCase)) (Zr.zr:rep M47 (Zr.zc GCase) (Zr.zd:GCase)) hd52⟩
 refine Qd (Zx [] tb49 Vk hf52) ?_
 obtain ⟨d56,hd55,hz⟩:=Qb hz
 refine Qt (Q7 0 24 hS rfl zb4 hT48_4 rfl ha52 rfl rfl (Lf (rr zb4) ha52) hd55 ?_)
 intro cs55 w54 hb55 ha55 hs55 hS
 refine Qf (Qa ?_)
 cases hz
 exact Q4 (Qq (Jt (j:=0) rfl hT48_4 (by rw [Rep.len hb55];exact Vg) hS rfl ⟨_,M47,_,rfl,hE,(hS.sel (H':=[.box bx1 cx1 90]) [1] (by decide) rfl),cs55,rfl,rfl,hb55⟩))
 replace hz:=Qn hz hc51
 refine Qu (Qa ?_)
 exact ⟨M47,(Zr.zc GCase),(Zr.zd:GCase),hF45,hS,zb4,hT48_0,hT48_1,hT48_4,hz⟩
 rintro T7 w5 ⟨M6,cs8,d9,hx10,hS,hb8,hT7_0,hT7_1,hT7_4,hz⟩
 replace hcx1:=Rep.mono hx10.1 hcx1
 rw [clCase_j1] at hz
 refine Qh <|Qi <|Qd (Qe (.pointer (some ⟨bx1,0,none⟩)) hT7_0) <|Qd (Qe (.int .i64 x2) hT7_1) <|Qd (Q6 rfl) <|Qd (Qp fa90_4 rfl) ?_
 obtain ⟨u11,hx12,hz⟩:=Qb hz
 obtain ⟨hx12a,hx12b⟩:=Qv hx12
 refine Qd (Zd ia88 rfl rfl hx12a hx12b) ?_
 obtain ⟨x13,hx14,hz⟩:=Qb hz
 have ha15:=(vp (k:=24) rfl rfl (Vi (rr hcx1)) hx14)
 refine Qd (Ze Vg rfl (hS.bvB 1 rfl) (Rep.len ha15)) ?_
 refine Qt (Zi tz49 hS ?_)
 intro b17 w16 hb17 hS
 have zb17:rep M6 (Zr.zc GCase) (Zr.zd:GCase):=Zr.zr
 obtain ⟨d20,hd19,hz⟩:=Qb hz
 refine Qt (Q7 0 24 hS rfl zb17 rfl rfl ha15 rfl rfl (Lf (rr zb17) ha15) hd19 ?_)
 intro cs19 w18 hb19 ha19 hs19 hS
 refine Qf (Qa ?_)
 refine Qh <|Yw [.box b17 cs19 49] [7,9] Z7 hS fun w21 hS hG22 hR23=>wy 0 rfl (Qp Ka rfl) (fun _=>hR23) ?_
 obtain ⟨v24,ev24,hv24⟩:=(Vb (rr hb19))
 refine Y8 1 rfl (Ql v24 Vf rfl (Ys 0 rfl) ev24) hR23 <|wy 3 rfl (Qp K5 rfl) (fun _=>hR23) ?_
 obtain ⟨v25,ev25,hv25⟩:=(V8 (rr hb19))
 refine Y8 4 rfl (Ql v25 Zy rfl (Ys 0 rfl) ev25) hR23 ?_
 obtain ⟨r28,hr27,hz⟩:=Qb hz
 refine w1 2 rfl (Y2 (vs:=[v24]) (rv:=(fun M' u=>repL M' u r28)) cb53 (Zp rfl) hS (cloneOps_ok hS.agree hv24 hr27) ?_)
 intro u27 M27 w26 hx27 hu27 hS
 have f27:repL M27 u27 r28:=hu27
 replace hv25:=Qw hx27.1 hv25
 replace hG22:=Qc hG22 hx27
 refine Yp hS hG22 fun hR29=>wy 6 rfl (Qp Ka rfl) (fun _=>hR29) ?_
 obtain ⟨r32,hr31,hz⟩:=Qb hz
 refine w1 5 rfl (Zt (vs:=[v25]) (L:=[]) (R:=[.box b17 cs19 49,.box b4 cs8 49,.box bx1 cx1 90]) (rv:=(fun M' u L' => ∃ v0,u=v0∧L'=[.row v0 3 1]∧repL M' v0 r32)) cb44 (Zp rfl) hS (hS.sel [0,1,2] (by decide) rfl) (fun hS=>Vq hS.agree hv25 hr31) ?_)
 rintro u31 M31 w30 L31 hx31 ⟨v0_31,rfl,hL31,f31_0⟩ hS
 replace hS:=hS _ hL31
 replace hb8:=Rep.mono (hx27.1.trans hx31.1) hb8
 replace hb19:=Rep.mono (hx27.1.trans hx31.1) hb19
 replace f27:=Qw hx31.1 f27
 replace hE:=Qc hE (hx10.trans (hx27.trans hx31))
 replace hG22:=Qc hG22 hx31
 refine Yp hS hG22 fun hR34 => ?_
 obtain ⟨d37,hd36,hz⟩:=Qb hz
 refine w1 7 rfl (Q7 1 1 hS rfl hb19 rfl rfl (Q2 f27) (Za f27) rfl (GCase.u2 (rr hb19) (Lf (Vb (rr hb19)) (Q2 f27))) hd36 ?_)
 intro cs36 w35 hb36 ha36 hs36 hS
 refine ⟨nB,?_⟩
 refine wy 8 rfl (Qp K5 rfl) nB ?_
 obtain ⟨d40,hd39,hz⟩:=Qb hz
 refine w1 9 rfl (Q7 1 1 hS rfl hb36 rfl rfl (Q2 f31_0) (Za f31_0) rfl (GCase.u5 (rr hb36) (Lf (V8 (rr hb36)) (Q2 f31_0))) hd39 ?_)
 intro cs39 w38 hb39 ha39 hs39 hS
 refine ⟨nB,?_⟩
 refine wd (Qa ?_)
 refine Qh <|Qi ?_
 have ha41:=(rr hb39)
 refine Qd (Ze Vg rfl (hS.bvB 1 rfl) (Rep.len ha41)) ?_
 obtain ⟨d44,hd43,hz⟩:=Qb hz
 refine Qt (Q7 2 24 hS rfl hb8 hT7_4 rfl ha41 rfl rfl (Lf (rr hb8) ha41) hd43 ?_)
 intro cs43 w42 hb43 ha43 hs43 hS
 refine Qf (Qa ?_)
 cases hz
 exact Q4 (Jt (j:=2) rfl hT7_4 (by rw [Rep.len hb43];exact Vg) hS rfl ⟨_,M31,_,rfl,hE,(hS.sel (H':=[.box bx1 cx1 90]) [3] (by decide) rfl),cs43,rfl,rfl,hb43⟩)
def clNetD (fu:Nat) (x1:GCluster) (l3:List ByteArray):Option ((List ByteArray) × (List ByteArray)) :=
 (cloneStrsD fu l3).bind fun l6 =>
 some (l6,l3)
set_option maxRecDepth 100000 in
set_option maxHeartbeats 4000000 in
theorem clNet_ok {M:Mm} {w:World} {bx1:Nat} {cx1:List Value} {ux1_6:Value} {xsx1_6:List Value} {x1:GCluster} {l3:List ByteArray} {fu:Nat} {r:(List ByteArray) × (List ByteArray)} (hS:St w (lentX [.box bx1 cx1 90,.stk ux1_6 9 1 xsx1_6]) M [.box bx1 cx1 90,.stk ux1_6 9 1 xsx1_6] w) (hcx1:rep M cx1 x1) (hkx1_6:skr M ux1_6 xsx1_6 l3) (hpx1_6:sl cx1 1993 1=[ux1_6]) (hz:clNetD fu x1 l3=some r) :
    Calls Try.prog 32 #[.pointer (some ⟨bx1,0,none⟩)] w (GivesL M w [.box bx1 cx1 90,.stk ux1_6 9 1 xsx1_6] (fun M' u L' => ∃ v0 u1 x1,u=v0∧L'=[.box bx1 cx1 90,.stk u1 9 1 x1]∧repL M' v0 r.1∧skr M' u1 x1 r.2∧sl cx1 1993 1=[u1])):=by
 refine Zh Try.func32 rfl 10 rfl rfl (by kernel_rfl) fun T hT => ?_
 have hT_0:T 0 = .pointer (some ⟨bx1,0,none⟩):=hT 0
 clear hT
 have hE:=Qg w.heap.size (lentX [.box bx1 cx1 90,.stk ux1_6 9 1 xsx1_6]) M
 rw [clNetD] at hz
 refine Qh <|Qi <|Qd (Qk ((.slice none 0 0)) rfl) ?_
 refine Qf (Qa ?_)
 refine Qh <|Qh <|Qi <|Qd (Qe (.pointer (some ⟨bx1,0,none⟩)) hT_0) <|Qd (Js rfl rfl Y5) ?_
 refine Qf (Qa ?_)
 refine W_cond_f rfl ?_
 refine Qu (Qa ?_)
 refine Qh <|Qi <|Qd (Qe (.pointer (some ⟨bx1,0,none⟩)) hT_0) <|Qd (Q6 rfl) <|Qd (Qp Jq rfl) <|Qd (Ql ux1_6 ts72 rfl (hS.bvB 0 rfl) hpx1_6) ?_
 obtain ⟨l6,hr5,hz⟩:=Qb hz
 refine Qt (O_lentS (j:=1) cb59 (Zp rfl) hS rfl hkx1_6 (fun hA hv=>cloneStrs_ok hA hv hr5) ?_)
 intro v5 M5 w4 hx5 hv5 hS
 replace hkx1_6:=Zo hx5.1 hkx1_6
 replace hE:=Qc hE hx5
 refine Qd (Qk (v5) rfl) ?_
 refine Qf (Qa ?_)
 cases hz
 exact Q4 (Yi rfl rfl ⟨_,M5,_,rfl,hE,(hS.sel (H':=[.box bx1 cx1 90,.stk ux1_6 9 1 xsx1_6]) [1,2] (by decide) rfl),v5,ux1_6,xsx1_6,rfl,rfl,hv5,hkx1_6,hpx1_6⟩)
def clNoD (fu:Nat) (x1:Int):Option GReply :=
 (some ({ code:=x1,n:=Zr.zd,values:=Zr.zd }:GReply)).bind fun d5 =>
 (some d5).bind fun d8 =>
 some d8
set_option maxRecDepth 100000 in
set_option maxHeartbeats 4000000 in
theorem clNo_ok {M:Mm} {w:World} {x1:Int} {fu:Nat} {r:GReply} (hA:Agree M w)  (hz:clNoD fu x1=some r) :
    Calls Try.prog 46 #[.int .i64 x1] w (Gives M w (fun M' u => ∃ cs,u = .agg cs.toArray∧rep M' cs r)):=by
 refine Zh Try.func46 rfl 5 rfl rfl (by kernel_rfl) fun T hT => ?_
 have hT_0:T 0 = .int .i64 x1:=hT 0
 clear hT
 have hE:=Qg w.heap.size noX M
 have hS:St w noX M [] w:=Zs hA
 rw [clNoD] at hz
 refine Qh <|Qi ?_
 refine Qt (Zi tz40 hS ?_)
 intro b3 w2 hb3 hS
 have zb3:rep M (Zr.zc GReply) (Zr.zd:GReply):=Zr.zr
 refine Qf (Qa ?_)
 refine Qh <|Qi <|Qd (Qe (.int .i64 x1) hT_0) ?_
 have k4_0:=V5 (Zr.zr:rep M (Zr.zc GReply) (Zr.zd:GReply)) (ri x1:rep M _ _)
 obtain ⟨d5,hd4,hz⟩:=Qb hz
 obtain ⟨cs4,hf4,ha4⟩ : ∃ cs,fillZ (([(0,1),(1,1),(2,1)]:List (Nat × Nat))[·]?) (Zr.zc GReply) [(0,.int .i64 x1)]=some cs∧rep M cs d5:=⟨_,(Zb (Zr.zr:rep M (Zr.zc GReply) (Zr.zd:GReply)) rfl rfl (Rep.len (ri x1:rep M _ _)) (by decide) Z8),Z9 (x:=({ code:=x1,n:=Zr.zd,values:=Zr.zd }:GReply)) k4_0 hd4⟩
 refine Qd (Zx [(0,.int .i64 x1)] tb40 (Yv rfl Vk) hf4) ?_
 obtain ⟨d8,hd7,hz⟩:=Qb hz
 refine Qt (Q7 0 3 hS rfl zb3 rfl rfl ha4 rfl rfl (Lf (rr zb3) ha4) hd7 ?_)
 intro cs7 w6 hb7 ha7 hs7 hS
 refine Qf (Qa ?_)
 cases hz
 exact Q4 (Jt (j:=0) rfl rfl (by rw [Rep.len hb7];exact Ko) hS rfl (Zk (Qo hS) hE ⟨_,rfl,hb7⟩))
def clSend_j1 (y16:Int) (rec17:GCluster→(List ByteArray)→Int→Option (GCluster × (List ByteArray))) (d26:GCluster) (l29:List ByteArray):Option (GCluster × (List ByteArray)) :=
 rec17 d26 l29 (IntKind.wrap .i64 (y16+1))
def clSend_j2 (d10:GCluster) (l13:List ByteArray) (y16:Int) (rec17:GCluster→(List ByteArray)→Int→Option (GCluster × (List ByteArray))) (r45:ByteArray × Int) (c49:Bool):Option (GCluster × (List ByteArray)) :=
 (bif c49 then
 (chkS r45.1).bind fun _ =>
 (app l13 ([r45.1]:List ByteArray)).bind fun l57 =>
 (some ({ d10 with net:=Hole.mk }:GCluster)).bind fun d60 =>
 clSend_j1 y16 rec17 d60 l57
 else
 clSend_j1 y16 rec17 d10 l13)
def clSend_l1 (fu:Nat) (x4:List GFrame):Nat→GCluster→(List ByteArray)→Int→Option (GCluster × (List ByteArray))
 | 0,_,_,_=>none
 | n+1,d10,l13,y16 =>
 (bif decide (y16<(x4.length:Int)) then
 (idx x4 y16).bind fun x35 =>
 (some x35).bind fun d41 =>
 (encodeD fu d41).bind fun r45 =>
 (bif r45.2==0 then
 clSend_j2 d10 l13 y16 (clSend_l1 fu x4 n) r45 (decide ((l13.length:Int)<60))
 else
 clSend_j2 d10 l13 y16 (clSend_l1 fu x4 n) r45 false)
 else
 some (d10,l13))
def clSendD (fu:Nat) (x1:GCluster) (l3:List ByteArray) (x4:List GFrame):Option (GCluster × (List ByteArray)) :=
 clSend_l1 fu x4 fu x1 l3 0
set_option maxRecDepth 100000 in
set_option maxHeartbeats 4000000 in
theorem clSend_ok {M:Mm} {w:World} {bx1:Nat} {cx1:List Value} {ux1_6:Value} {xsx1_6:List Value} {vx4:Value} {x1:GCluster} {l3:List ByteArray} {x4:List GFrame} {fu:Nat} {r:GCluster × (List ByteArray)} (hS:St w (lentX [.box bx1 cx1 90,.stk ux1_6 9 1 xsx1_6]) M [.box bx1 cx1 90,.stk ux1_6 9 1 xsx1_6] w) (hcx1:rep M cx1 x1) (hkx1_6:skr M ux1_6 xsx1_6 l3) (hpx1_6:sl cx1 1993 1=[ux1_6]) (hvx4:repL M vx4 x4) (hz:clSendD fu x1 l3 x4=some r) :
    Calls Try.prog 49 #[.pointer (some ⟨bx1,0,none⟩),vx4] w (GivesL M w [.box bx1 cx1 90,.stk ux1_6 9 1 xsx1_6] (fun M' u L' => ∃ k0 u1 x1,u = .tuple #[]∧L'=[.box bx1 k0 90,.stk u1 9 1 x1]∧rep M' k0 r.1∧skr M' u1 x1 r.2∧sl k0 1993 1=[u1])):=by
 refine Zh Try.func49 rfl 40 rfl rfl (by kernel_rfl) fun T hT => ?_
 have hT_0:T 0 = .pointer (some ⟨bx1,0,none⟩):=hT 0
 have hT_1:T 1=vx4:=hT 1
 clear hT
 have hE:=Qg w.heap.size (lentX [.box bx1 cx1 90,.stk ux1_6 9 1 xsx1_6]) M
 rw [clSendD] at hz
 refine Qh <|Qi <|Qd (Qe (vx4) hT_1) ?_
 obtain ⟨a5,c5,hv5,_⟩:=Q3 hvx4
 refine Qd (Zj Try.underlying96 (Vs hv5 rfl)) <|Qd (Qe (.int .i64 0) rfl) ?_
 refine Qf (Qa ?_)
 refine Qy ?_
 refine Z0 (fun k18 T' w' => ∃ M7 cs9 d10 v11 xs12 l13 y16,Mm.ext w.heap.size (lentX [.box bx1 cx1 90,.stk ux1_6 9 1 xsx1_6]) M M7∧St w (lentX [.box bx1 cx1 90,.stk ux1_6 9 1 xsx1_6]) M7 [.box bx1 cs9 90,.stk v11 9 1 xs12] w'∧rep M7 cs9 d10∧skr M7 v11 xs12 l13∧sl cs9 (0+1993) 1=[v11]∧T' 0 = .pointer (some ⟨bx1,0,none⟩)∧T' 8=vx4∧T' 9 = .int .i64 (x4.length:Int)∧T' 10 = .int .i64 y16∧clSend_l1 fu x4 k18 d10 l13 y16=some r) fu ?_ ?_ ?_
 exact ⟨M,cx1,x1,ux1_6,xsx1_6,l3,(0:Int),(Qg _ _ _),hS,hcx1,hkx1_6,hpx1_6,hT_0,rfl,rfl,rfl,hz⟩
 rintro T' w' ⟨_,_,_,_,_,_,_,_,_,_,_,_,_,_,_,_,hz⟩
 rw [clSend_l1] at hz
 cases hz
 intro k18
 rintro T8 w6 ⟨M7,cs9,d10,v11,xs12,l13,y16,hx20,hS,hb9,hk14,hp15,hT8_0,hT8_8,hT8_9,hT8_10,hz⟩
 replace hvx4:=Qw hx20.1 hvx4
 replace hE:=Qc hE hx20
 have hF19:=hx20
 rw [clSend_l1] at hz
 obtain ⟨rec17,hrec17⟩ : ∃ f,f=clSend_l1 fu x4 k18:=⟨_,rfl⟩
 rw [← hrec17] at hz
 refine Qh <|Qi <|Qd (Zq hT8_10 hT8_9) ?_
 refine Qf (Qa ?_)
 refine Qh ?_
 refine Qs rfl (fun hc21 => ?_) (fun hc21 => ?_)
 replace hz:=Qm hz hc21
 refine Qu (Qa ?_)
 refine Qz (fun T' w' => ∃ M23 cs25 d26 v27 xs28 l29,Mm.ext w.heap.size (lentX [.box bx1 cx1 90,.stk ux1_6 9 1 xsx1_6]) M7 M23∧St w (lentX [.box bx1 cx1 90,.stk ux1_6 9 1 xsx1_6]) M23 [.box bx1 cs25 90,.stk v27 9 1 xs28] w'∧rep M23 cs25 d26∧skr M23 v27 xs28 l29∧sl cs25 (0+1993) 1=[v27]∧T' 0 = .pointer (some ⟨bx1,0,none⟩)∧T' 8=vx4∧T' 9 = .int .i64 (x4.length:Int)∧T' 10 = .int .i64 y16∧clSend_j1 y16 rec17 d26 l29=some r) ?_ ?_
 have hF33:=Qg w.heap.size (lentX [.box bx1 cx1 90,.stk ux1_6 9 1 xsx1_6]) M7
 refine Qy <|Qh <|Qi ?_
 obtain ⟨x35,hx34,hz⟩:=Qb hz
 obtain ⟨b34,o34,c34,p34,hv34,hi34,hj34,hM34,hr34⟩:=Yb hvx4 hx34
 replace hr34:rep _ (sl p34 (o34+Int.toNat y16*7) 7) x35:=hr34
 refine Qd (Yn il96 hT8_8 hv34 hT8_10 hi34 hj34) ?_
 have ha36:=hr34
 refine Qd (Ze K2 rfl (hS.bvM hM34) (Rep.len ha36)) ?_
 refine Qt (Zi tz118 hS ?_)
 intro b38 w37 hb38 hS
 have zb38:rep M7 (Zr.zc GFrame) (Zr.zd:GFrame):=Zr.zr
 obtain ⟨d41,hd40,hz⟩:=Qb hz
 refine Qt (Q7 0 7 hS rfl zb38 rfl rfl ha36 rfl rfl (Lf (rr zb38) ha36) hd40 ?_)
 intro cs40 w39 hb40 ha40 hs40 hS
 refine Qf (Qa ?_)
 refine Qh <|Qi ?_
 have ha42:=(rr hb40)
 refine Qd (Ze K2 rfl (hS.bvB 0 rfl) (Rep.len ha42)) ?_
 obtain ⟨r45,hr44,hz⟩:=Qb hz
 refine Qt (Zz (vs:=[.agg (sl cs40 (0) 7).toArray]) (v := .tuple #[.string r45.1,.int .i64 r45.2]) cb70 (Zp rfl) hS (encode_ok hS.agree ha42 hr44) ?_)
 intro w43 hS
 refine Qd (Qe (.tuple #[.string r45.1,.int .i64 r45.2]) rfl) <|Qd (Zc (v := .string r45.1) rfl rfl) <|Qd (Zc (v := .int .i64 r45.2) rfl rfl) <|Q1 2 rfl ?_
 refine Qf (Qa ?_)
 refine Qz (fun T' w' => ∃ M47 c49,Mm.ext w.heap.size (lentX [.box bx1 cx1 90,.stk ux1_6 9 1 xsx1_6]) M7 M47∧St w (lentX [.box bx1 cx1 90,.stk ux1_6 9 1 xsx1_6]) M47 [.box b38 cs40 118,.box bx1 cs9 90,.stk v11 9 1 xs12] w'∧T' 0 = .pointer (some ⟨bx1,0,none⟩)∧T' 6 = .string r45.1∧T' 8=vx4∧T' 9 = .int .i64 (x4.length:Int)∧T' 10 = .int .i64 y16∧T' 28 = .bool c49∧clSend_j2 d10 l13 y16 rec17 r45 c49=some r) ?_ ?_
 have hF62:=Qg w.heap.size (lentX [.box bx1 cx1 90,.stk ux1_6 9 1 xsx1_6]) M7
 refine Qi <|Qd (Qe (.int .i64 r45.2) rfl) <|Qd (Yf rfl rfl) <|Qd (Qe (.bool (r45.2==0)) rfl) ?_
 rcases ic hz with ⟨hc63,hz⟩ | ⟨hc63,hz⟩<;>rw [hc63]
 refine Qj rfl rfl (Qe (.pointer (some ⟨bx1,0,none⟩)) hT8_0) <|Qj rfl rfl (Q6 rfl) <|Qj rfl rfl (Qp Jq rfl) <|Qj rfl rfl (Ql v11 ts72 rfl (hS.bvB 1 rfl) hp15) ?_
 obtain ⟨a64,c64,hv64,_⟩:=Vo hk14
 refine Qj rfl rfl (Zj Y4 (Vs hv64 rfl)) <|Qj rfl rfl (Zq rfl rfl) <|Qd (Z1 (.bool (decide ((l13.length:Int)<60))) rfl rfl) ?_
 refine Qf (Qa ?_)
 exact ⟨M7,(decide ((l13.length:Int)<60)),hF62,hS,hT8_0,rfl,hT8_8,hT8_9,hT8_10,rfl,hz⟩
 refine Q1 7 rfl ?_
 refine Qf (Qa ?_)
 exact ⟨M7,false,hF62,hS,hT8_0,rfl,hT8_8,hT8_9,hT8_10,rfl,hz⟩
 rintro T48 w46 ⟨M47,c49,hx50,hS,hT48_0,hT48_6,hT48_8,hT48_9,hT48_10,hT48_28,hz⟩
 replace hb9:=Rep.mono hx50.1 hb9
 replace hk14:=Zo hx50.1 hk14
 replace hF33:=Qc hF33 hx50
 rw [clSend_j2] at hz
 refine Qs hT48_28 (fun hc51 => ?_) (fun hc51 => ?_)
 replace hz:=Qm hz hc51
 refine Qi <|Qd (Qe (.pointer (some ⟨bx1,0,none⟩)) hT48_0) <|Qd (Qe (.pointer (some ⟨bx1,0,none⟩)) hT48_0) <|Qd (Q6 rfl) <|Qd (Qp Jq rfl) <|Qd (Ql v11 ts72 rfl (hS.bvB 1 rfl) hp15) <|Qd (Qe (.string r45.1) hT48_6) ?_
 obtain ⟨_,hx53,hz⟩:=Qb hz
 have hx53:=Kh hx53
 refine Qt (Z3 (α := ByteArray) (l:=([r45.1]:List ByteArray)) [.string r45.1] tl72 (Yv rfl Vk) rfl rfl (by decide) (by decide) (by decide) hS (K4 (V0 hx53:rep M47 [Value.string r45.1] r45.1) Jl) ?_)
 intro v54 M54 w52 hx54 hv54 hS
 replace hb9:=Rep.mono hx54.1 hb9
 replace hk14:=Zo hx54.1 hk14
 replace hF33:=Qc hF33 hx54
 obtain ⟨l57,hr56,hz⟩:=Qb hz
 obtain ⟨hy56,hs56⟩:=Z4 hr56
 refine Qt (O_appS (α := ByteArray) (j:=2) tp72 hS rfl rfl rfl hk14 hv54 hy56 ?_)
 intro v56 xs56 w55 hk56 hS
 rw [← hs56] at hk56
 clear hr56 hs56
 refine Qd (Q6 rfl) <|Qd (Qp Jq rfl) ?_
 obtain ⟨d60,hd59,hz⟩:=Qb hz
 refine Qt (Q7 1 1 hS rfl hb9 rfl rfl (Kk hk56) (skr_cells hk56) rfl (GCluster.u6 (rr hb9) (Lf (GCluster.p6 (rr hb9)) (Kk hk56))) hd59 ?_)
 intro cs59 w58 hb59 ha59 hs59 hS
 have hp61:=hs59
 refine Qf (Q8 ?_)
 refine (Qa ?_)
 exact ⟨M54,cs59,d60,v56,xs56,l57,hF33,(Yu hS hb38),hb59,hk56,hp61,hT48_0,hT48_8,hT48_9,hT48_10,hz⟩
 replace hz:=Qn hz hc51
 refine Qu (Q8 ?_)
 refine (Qa ?_)
 exact ⟨M47,cs9,d10,v11,xs12,l13,hF33,(Yu hS hb38),hb9,hk14,hp15,hT48_0,hT48_8,hT48_9,hT48_10,hz⟩
 rintro T24 w22 ⟨M23,cs25,d26,v27,xs28,l29,hx32,hS,hb25,hk30,hp31,hT24_0,hT24_8,hT24_9,hT24_10,hz⟩
 replace hF19:=Qc hF19 hx32
 rw [clSend_j1] at hz
 refine Qi <|Qd (Z2 hT24_10 rfl) <|Qd (Qe (.int .i64 (IntKind.wrap .i64 (y16+1))) rfl) ?_
 refine Qf (Qa ?_)
 exact ⟨M23,cs25,d26,v27,xs28,l29,(IntKind.wrap .i64 (y16+1)),hF19,hS,hb25,hk30,hp31,hT24_0,hT24_8,hT24_9,rfl,(by rw [← hrec17];exact hz)⟩
 replace hz:=Qn hz hc21
 refine Zu <|Q0 <|Q0 <|Zv ?_
 cases hz
 exact (RetQ_ret (R_t0 rfl  ⟨_,M7,_,rfl,hE,(hS.sel (H':=[.box bx1 cs9 90,.stk v11 9 1 xs12]) [0,1] (by decide) rfl),cs9,v11,xs12,rfl,rfl,hb9,hk14,hp15⟩))
def clBeginD (fu:Nat) (x1:GCluster) (l3:List ByteArray) (x4:List GOp):Option (GReply × GCluster × (List ByteArray)) :=
 (bif decide (x1.begun≥32) then
 (some ({ code:=5,n:=Zr.zd,values:=Zr.zd }:GReply)).bind fun d9 =>
 (some d9).bind fun d12 =>
 some (d12,x1,l3)
 else
 (some ({ id:=x1.begun,ops:=x4 }:GTxn)).bind fun d14 =>
 (postBeginD fu d14).bind fun r17 =>
 (some r17.1).bind fun d22 =>
 (bif r17.2.2 != 0 then
 (some ({ code:=r17.2.2,n:=Zr.zd,values:=Zr.zd }:GReply)).bind fun d25 =>
 (some d25).bind fun d28 =>
 some (d28,x1,l3)
 else
 (inR x1.begun 32).bind fun _ =>
 (idxV x1.cases x1.begun).bind fun x37 =>
 (setV x1.cases x1.begun d22).bind fun a39 =>
 (some ({ x1 with cases:=a39 }:GCluster)).bind fun d41 =>
 (some ({ d41 with begun:=IntKind.wrap .i64 (d41.begun+1) }:GCluster)).bind fun d46 =>
 (clSendD fu d46 l3 r17.2.1).bind fun r50 =>
 (some ({ code:=Zr.zd,n:=IntKind.wrap .i64 (r50.1.begun-1),values:=Zr.zd }:GReply)).bind fun d52 =>
 (some d52).bind fun d55 =>
 some (d55,r50.1,r50.2)))
set_option maxRecDepth 100000 in
set_option maxHeartbeats 4000000 in
theorem clBegin_ok {M:Mm} {w:World} {bx1:Nat} {cx1:List Value} {ux1_6:Value} {xsx1_6:List Value} {vx4:Value} {x1:GCluster} {l3:List ByteArray} {x4:List GOp} {fu:Nat} {r:GReply × GCluster × (List ByteArray)} (hS:St w (lentX [.box bx1 cx1 90,.stk ux1_6 9 1 xsx1_6]) M [.box bx1 cx1 90,.stk ux1_6 9 1 xsx1_6] w) (hcx1:rep M cx1 x1) (hkx1_6:skr M ux1_6 xsx1_6 l3) (hpx1_6:sl cx1 1993 1=[ux1_6]) (hvx4:repL M vx4 x4) (hz:clBeginD fu x1 l3 x4=some r) :
    Calls Try.prog 47 #[.pointer (some ⟨bx1,0,none⟩),vx4] w (GivesL M w [.box bx1 cx1 90,.stk ux1_6 9 1 xsx1_6] (fun M' u L' => ∃ c0 k0 u1 x1,u = .agg c0.toArray∧L'=[.box bx1 k0 90,.stk u1 9 1 x1]∧rep M' c0 r.1∧rep M' k0 r.2.1∧skr M' u1 x1 r.2.2∧sl k0 1993 1=[u1])):=by
 refine Zh Try.func47 rfl 54 rfl rfl (by kernel_rfl) fun T hT => ?_
 have hT_0:T 0 = .pointer (some ⟨bx1,0,none⟩):=hT 0
 have hT_1:T 1=vx4:=hT 1
 clear hT
 have hE:=Qg w.heap.size (lentX [.box bx1 cx1 90,.stk ux1_6 9 1 xsx1_6]) M
 rw [clBeginD] at hz
 refine Qh <|Qi ?_
 refine Qt (Zi tz40 hS ?_)
 intro b6 w5 hb6 hS
 have zb6:rep M (Zr.zc GReply) (Zr.zd:GReply):=Zr.zr
 refine Qf (Qa ?_)
 refine Qh <|Qh <|Qi <|Qd (Qe (.pointer (some ⟨bx1,0,none⟩)) hT_0) <|Qd (Q6 rfl) <|Qd (Qp fa90_5 rfl) <|Qd (Ql (.int .i64 x1.begun) Yc rfl (hS.bvB 1 rfl) (Vw (rr hcx1))) <|Qd (Ve rfl rfl) ?_
 refine Qf (Qa ?_)
 refine Qs rfl (fun hc7 => ?_) (fun hc7 => ?_)
 replace hz:=Qm hz hc7
 refine Qh <|Qi ?_
 have k8_0:=V5 (Zr.zr:rep M (Zr.zc GReply) (Zr.zd:GReply)) (ri 5:rep M _ _)
 obtain ⟨d9,hd8,hz⟩:=Qb hz
 obtain ⟨cs8,hf8,ha8⟩ : ∃ cs,fillZ (([(0,1),(1,1),(2,1)]:List (Nat × Nat))[·]?) (Zr.zc GReply) [(0,.int .i64 5)]=some cs∧rep M cs d9:=⟨_,(Zb (Zr.zr:rep M (Zr.zc GReply) (Zr.zd:GReply)) rfl rfl (Rep.len (ri 5:rep M _ _)) (by decide) Z8),Z9 (x:=({ code:=5,n:=Zr.zd,values:=Zr.zd }:GReply)) k8_0 hd8⟩
 refine Qd (Zx [(0,.int .i64 5)] tb40 (Yv rfl Vk) hf8) ?_
 obtain ⟨d12,hd11,hz⟩:=Qb hz
 refine Qt (Q7 0 3 hS rfl zb6 rfl rfl ha8 rfl rfl (Lf (rr zb6) ha8) hd11 ?_)
 intro cs11 w10 hb11 ha11 hs11 hS
 refine Qf (Qa ?_)
 cases hz
 exact Q4 (Qq (Jt (j:=0) rfl rfl (by rw [Rep.len hb11];exact Ko) hS rfl ⟨_,M,_,rfl,hE,(hS.sel (H':=[.box bx1 cx1 90,.stk ux1_6 9 1 xsx1_6]) [1,2] (by decide) rfl),cs11,cx1,ux1_6,xsx1_6,rfl,rfl,hb11,hcx1,hkx1_6,hpx1_6⟩))
 replace hz:=Qn hz hc7
 refine Qu (Qa ?_)
 refine Qh <|Qi <|Qd (Qe (.pointer (some ⟨bx1,0,none⟩)) hT_0) <|Qd (Q6 rfl) <|Qd (Qp fa90_5 rfl) <|Qd (Ql (.int .i64 x1.begun) Yc rfl (hS.bvB 1 rfl) (Vw (rr hcx1))) <|Qd (Qe (vx4) hT_1) ?_
 have k13_0:=GTxn.w0 (Zr.zr:rep M (Zr.zc GTxn) (Zr.zd:GTxn)) (ri x1.begun:rep M _ _)
 have k13_1:=GTxn.w1 k13_0 (Q2 hvx4)
 obtain ⟨d14,hd13,hz⟩:=Qb hz
 obtain ⟨cs13,hf13,ha13⟩ : ∃ cs,fillZ (([(0,1),(1,1)]:List (Nat × Nat))[·]?) (Zr.zc GTxn) [(0,.int .i64 x1.begun),(1,vx4)]=some cs∧rep M cs d14:=⟨_,(Zb (Zr.zr:rep M (Zr.zc GTxn) (Zr.zd:GTxn)) rfl rfl (Rep.len (ri x1.begun:rep M _ _)) (by decide) (Zb k13_0 rfl (Za hvx4) (Rep.len (Q2 hvx4)) (by decide) Z8)),Z9 (x:=({ id:=x1.begun,ops:=x4 }:GTxn)) k13_1 hd13⟩
 refine Qd (Zx [(0,.int .i64 x1.begun),(1,vx4)] tb115 (Yv rfl (Yv rfl Vk)) hf13) ?_
 obtain ⟨r17,hr16,hz⟩:=Qb hz
 refine Qt (Y2 (vs:=[.agg cs13.toArray]) (rv:=(fun M' u => ∃ c0 v1,u = .tuple #[.agg c0.toArray,v1,.int .i64 r17.2.2]∧rep M' c0 r17.1∧repL M' v1 r17.2.1)) cb65 (Zp rfl) hS (postBegin_ok hS.agree ha13 hr16) ?_)
 intro u16 M16 w15 hx16 hu16 hS
 obtain ⟨c16_0,v16_1,hq16,f16_0,f16_1⟩:=hu16
 subst hq16
 replace hcx1:=Rep.mono hx16.1 hcx1
 replace hkx1_6:=Zo hx16.1 hkx1_6
 replace zb6:=Rep.mono hx16.1 zb6
 replace hE:=Qc hE hx16
 refine Qd (Qe (.tuple #[.agg c16_0.toArray,v16_1,.int .i64 r17.2.2]) rfl) <|Qd (Zc (v := .agg c16_0.toArray) rfl rfl) <|Qd (Zc (v:=v16_1) rfl rfl) <|Qd (Zc (v := .int .i64 r17.2.2) rfl rfl) ?_
 refine Qt (Zi tz49 hS ?_)
 intro b19 w18 hb19 hS
 have zb19:rep M16 (Zr.zc GCase) (Zr.zd:GCase):=Zr.zr
 obtain ⟨d22,hd21,hz⟩:=Qb hz
 refine Qt (Q7 0 24 hS rfl zb19 rfl rfl f16_0 rfl rfl (Lf (rr zb19) f16_0) hd21 ?_)
 intro cs21 w20 hb21 ha21 hs21 hS
 refine Q1 2 rfl ?_
 refine Qf (Qa ?_)
 refine Qh <|Qh <|Qi <|Qd (Qe (.int .i64 r17.2.2) rfl) <|Qd (Yk rfl rfl) ?_
 refine Qf (Qa ?_)
 refine Qs rfl (fun hc23 => ?_) (fun hc23 => ?_)
 replace hz:=Qm hz hc23
 refine Qh <|Qi <|Qd (Qe (.int .i64 r17.2.2) rfl) ?_
 have k24_0:=V5 (Zr.zr:rep M16 (Zr.zc GReply) (Zr.zd:GReply)) (ri r17.2.2:rep M16 _ _)
 obtain ⟨d25,hd24,hz⟩:=Qb hz
 obtain ⟨cs24,hf24,ha24⟩ : ∃ cs,fillZ (([(0,1),(1,1),(2,1)]:List (Nat × Nat))[·]?) (Zr.zc GReply) [(0,.int .i64 r17.2.2)]=some cs∧rep M16 cs d25:=⟨_,(Zb (Zr.zr:rep M16 (Zr.zc GReply) (Zr.zd:GReply)) rfl rfl (Rep.len (ri r17.2.2:rep M16 _ _)) (by decide) Z8),Z9 (x:=({ code:=r17.2.2,n:=Zr.zd,values:=Zr.zd }:GReply)) k24_0 hd24⟩
 refine Qd (Zx [(0,.int .i64 r17.2.2)] tb40 (Yv rfl Vk) hf24) ?_
 obtain ⟨d28,hd27,hz⟩:=Qb hz
 refine Qt (Q7 1 3 hS rfl zb6 rfl rfl ha24 rfl rfl (Lf (rr zb6) ha24) hd27 ?_)
 intro cs27 w26 hb27 ha27 hs27 hS
 refine Qf (Qa ?_)
 cases hz
 exact Q4 (Qq (Jt (j:=1) rfl rfl (by rw [Rep.len hb27];exact Ko) hS rfl ⟨_,M16,_,rfl,hE,(hS.sel (H':=[.box bx1 cx1 90,.stk ux1_6 9 1 xsx1_6]) [2,3] (by decide) rfl),cs27,cx1,ux1_6,xsx1_6,rfl,rfl,hb27,hcx1,hkx1_6,hpx1_6⟩))
 replace hz:=Qn hz hc23
 refine Qu (Qa ?_)
 refine Qh <|Yw [.box b19 cs21 49,.box bx1 cx1 90] [9] Z7 hS fun w29 hS hG30 hR31=>wy 0 rfl (Qe (.pointer (some ⟨bx1,0,none⟩)) hT_0) (fun _=>hR31) <|wy 1 rfl (Qe (.pointer (some ⟨bx1,0,none⟩)) hT_0) (fun _=>hR31) <|wy 2 rfl (Q6 rfl) (fun _=>hR31) <|wy 3 rfl (Qp fa90_5 rfl) (fun _=>hR31) <|Y8 4 rfl (Ql (.int .i64 x1.begun) Yc rfl (Ys 1 rfl) (Vw (rr hcx1))) hR31 ?_
 have ha32:=(rr hb21)
 refine Y8 5 rfl (Ze Vg rfl (Ys 0 rfl) (Rep.len ha32)) hR31 <|wy 6 rfl (Q6 rfl) (fun _=>hR31) <|wy 7 rfl (Qp fa90_4 rfl) (fun _=>hR31) ?_
 obtain ⟨u33,hx34,hz⟩:=Qb hz
 obtain ⟨hx34a,hx34b⟩:=Qv hx34
 refine wy 8 rfl (Zd ia88 rfl rfl hx34a hx34b) (fun _=>hR31) ?_
 obtain ⟨x37,hx38,hz⟩:=Qb hz
 obtain ⟨a39,hx40,hz⟩:=Qb hz
 obtain ⟨d41,hd36,hz⟩:=Qb hz
 have hq43:=(Zm hx38)
 refine w1 9 rfl (Q7 2 24 hS rfl hcx1 rfl rfl ha32 rfl rfl (GCluster.u4 (rr hcx1) (vu (k:=24) rfl rfl (Vi (rr hcx1)) (Lf (vp (k:=24) rfl rfl (Vi (rr hcx1)) hx38) ha32) hx40)) hd36 ?_)
 intro cs36 w35 hb36 ha36 hs36 hS
 have hp42:=(ha36 (by omega)).trans hpx1_6
 refine ⟨nB,?_⟩
 refine wd (Qa ?_)
 refine Qh <|Qi <|Qd (Qe (.pointer (some ⟨bx1,0,none⟩)) hT_0) <|Qd (Q6 rfl) <|Qd (Qp fa90_5 rfl) <|Qd (Ql (.int .i64 d41.begun) Yc rfl (hS.bvB 2 rfl) (Vw (rr hb36))) <|Qd (Z2 rfl rfl) <|Qd (Q6 rfl) <|Qd (Qp fa90_5 rfl) ?_
 obtain ⟨d46,hd45,hz⟩:=Qb hz
 refine Qt (Q7 2 1 hS rfl hb36 rfl rfl (ri (IntKind.wrap .i64 (d41.begun+1)):rep M16 _ _) rfl rfl (GCluster.u5 (rr hb36) (Lf (Vw (rr hb36)) (ri (IntKind.wrap .i64 (d41.begun+1)):rep M16 _ _))) hd45 ?_)
 intro cs45 w44 hb45 ha45 hs45 hS
 have hp47:=(ha45 (by omega)).trans hp42
 refine Qf (Qa ?_)
 refine Qh <|Qi <|Qd (Qe (.pointer (some ⟨bx1,0,none⟩)) hT_0) <|Qd (Qe (v16_1) rfl) ?_
 obtain ⟨r50,hr49,hz⟩:=Qb hz
 refine Qt (Zt (vs:=[.pointer (some ⟨bx1,0,none⟩),v16_1]) (L:=[.box bx1 cs45 90,.stk ux1_6 9 1 xsx1_6]) (R:=[.box b19 cs21 49,.box b6 (Zr.zc GReply) 40]) (rv:=(fun M' u L' => ∃ k0 u1 x1,u = .tuple #[]∧L'=[.box bx1 k0 90,.stk u1 9 1 x1]∧rep M' k0 r50.1∧skr M' u1 x1 r50.2∧sl k0 1993 1=[u1])) cb49 (Z6 rfl rfl) hS (hS.sel [2,3,0,1] (by decide) rfl) (fun hS=>clSend_ok hS hb45 hkx1_6 hp47 f16_1 hr49) ?_)
 rintro u49 M49 w48 L49 hx49 ⟨k0_49,u1_49,x1_49,rfl,hL49,f49_0,f49_1,f49_2⟩ hS
 replace hS:=hS _ hL49
 replace zb6:=Rep.mono hx49.1 zb6
 replace hE:=Qc hE hx49
 refine Qf (Qa ?_)
 refine Qh <|Qi <|Qd (Qe (.pointer (some ⟨bx1,0,none⟩)) hT_0) <|Qd (Q6 rfl) <|Qd (Qp fa90_5 rfl) <|Qd (Ql (.int .i64 r50.1.begun) Yc rfl (hS.bvB 0 rfl) (Vw (rr f49_0))) <|Qd (Ki rfl rfl) ?_
 have k51_0:=GReply.w1 (Zr.zr:rep M49 (Zr.zc GReply) (Zr.zd:GReply)) (ri (IntKind.wrap .i64 (r50.1.begun-1)):rep M49 _ _)
 obtain ⟨d52,hd51,hz⟩:=Qb hz
 obtain ⟨cs51,hf51,ha51⟩ : ∃ cs,fillZ (([(0,1),(1,1),(2,1)]:List (Nat × Nat))[·]?) (Zr.zc GReply) [(1,.int .i64 (IntKind.wrap .i64 (r50.1.begun-1)))]=some cs∧rep M49 cs d52:=⟨_,(Zb (Zr.zr:rep M49 (Zr.zc GReply) (Zr.zd:GReply)) rfl rfl (Rep.len (ri (IntKind.wrap .i64 (r50.1.begun-1)):rep M49 _ _)) (by decide) Z8),Z9 (x:=({ code:=Zr.zd,n:=IntKind.wrap .i64 (r50.1.begun-1),values:=Zr.zd }:GReply)) k51_0 hd51⟩
 refine Qd (Zx [(1,.int .i64 (IntKind.wrap .i64 (r50.1.begun-1)))] tb40 (Yv rfl Vk) hf51) ?_
 obtain ⟨d55,hd54,hz⟩:=Qb hz
 refine Qt (Q7 3 3 hS rfl zb6 rfl rfl ha51 rfl rfl (Lf (rr zb6) ha51) hd54 ?_)
 intro cs54 w53 hb54 ha54 hs54 hS
 refine Qf (Qa ?_)
 cases hz
 exact Q4 (Jt (j:=3) rfl rfl (by rw [Rep.len hb54];exact Ko) hS rfl ⟨_,M49,_,rfl,hE,(hS.sel (H':=[.box bx1 k0_49 90,.stk u1_49 9 1 x1_49]) [0,1] (by decide) rfl),cs54,k0_49,u1_49,x1_49,rfl,rfl,hb54,f49_0,f49_1,f49_2⟩)
def clToldD (fu:Nat) (x1:GCluster) (x2:Int):Option GReply :=
 (inR x2 32).bind fun _ =>
 (idxV x1.cases x2).bind fun x7 =>
 (postResultD fu x7).bind fun r12 =>
 (some ({ code:=Zr.zd,n:=x2,values:=r12.1 }:GReply)).bind fun d14 =>
 (some d14).bind fun d17 =>
 some d17
set_option maxRecDepth 100000 in
set_option maxHeartbeats 4000000 in
theorem clTold_ok {M:Mm} {w:World} {bx1:Nat} {cx1:List Value} {x1:GCluster} {x2:Int} {fu:Nat} {r:GReply} (hS:St w (lentX [.box bx1 cx1 90]) M [.box bx1 cx1 90] w) (hcx1:rep M cx1 x1) (hz:clToldD fu x1 x2=some r) :
    Calls Try.prog 51 #[.pointer (some ⟨bx1,0,none⟩),.int .i64 x2] w (GivesL M w [.box bx1 cx1 90] (fun M' u L' => ∃ c0,u = .agg c0.toArray∧L'=[.box bx1 cx1 90]∧rep M' c0 r)):=by
 refine Zh Try.func51 rfl 20 rfl rfl (by kernel_rfl) fun T hT => ?_
 have hT_0:T 0 = .pointer (some ⟨bx1,0,none⟩):=hT 0
 have hT_1:T 1 = .int .i64 x2:=hT 1
 clear hT
 have hE:=Qg w.heap.size (lentX [.box bx1 cx1 90]) M
 rw [clToldD] at hz
 refine Qh <|Qi ?_
 refine Qt (Zi tz40 hS ?_)
 intro b4 w3 hb4 hS
 have zb4:rep M (Zr.zc GReply) (Zr.zd:GReply):=Zr.zr
 refine Qf (Qa ?_)
 refine Qh <|Qi <|Qd (Qe (.pointer (some ⟨bx1,0,none⟩)) hT_0) <|Qd (Qe (.int .i64 x2) hT_1) <|Qd (Q6 rfl) <|Qd (Qp fa90_4 rfl) ?_
 obtain ⟨u5,hx6,hz⟩:=Qb hz
 obtain ⟨hx6a,hx6b⟩:=Qv hx6
 refine Qd (Zd ia88 rfl rfl hx6a hx6b) ?_
 obtain ⟨x7,hx8,hz⟩:=Qb hz
 have ha9:=(vp (k:=24) rfl rfl (Vi (rr hcx1)) hx8)
 refine Qd (Ze Vg rfl (hS.bvB 1 rfl) (Rep.len ha9)) ?_
 obtain ⟨r12,hr11,hz⟩:=Qb hz
 refine Qt (Y2 (vs:=[.agg (sl cx1 (0+1224+Int.toNat x2*24) 24).toArray]) (rv:=(fun M' u => ∃ v0,u = .tuple #[v0,.bool r12.2]∧repL M' v0 r12.1)) cb28 (Zp rfl) hS (postResult_ok hS.agree ha9 hr11) ?_)
 intro u11 M11 w10 hx11 hu11 hS
 obtain ⟨v11_0,hq11,f11_0⟩:=hu11
 subst hq11
 replace zb4:=Rep.mono hx11.1 zb4
 replace hE:=Qc hE hx11
 refine Qd (Qe (.tuple #[v11_0,.bool r12.2]) rfl) <|Qd (Zc (v:=v11_0) rfl rfl) <|Qd (Zc (v := .bool r12.2) rfl rfl) <|Q1 2 rfl ?_
 refine Qf (Qa ?_)
 refine Qh <|Qi <|Qd (Qe (.int .i64 x2) hT_1) <|Qd (Qe (v11_0) rfl) ?_
 have k13_0:=GReply.w1 (Zr.zr:rep M11 (Zr.zc GReply) (Zr.zd:GReply)) (ri x2:rep M11 _ _)
 have k13_1:=GReply.w2 k13_0 (Q2 f11_0)
 obtain ⟨d14,hd13,hz⟩:=Qb hz
 obtain ⟨cs13,hf13,ha13⟩ : ∃ cs,fillZ (([(0,1),(1,1),(2,1)]:List (Nat × Nat))[·]?) (Zr.zc GReply) [(1,.int .i64 x2),(2,v11_0)]=some cs∧rep M11 cs d14:=⟨_,(Zb (Zr.zr:rep M11 (Zr.zc GReply) (Zr.zd:GReply)) rfl rfl (Rep.len (ri x2:rep M11 _ _)) (by decide) (Zb k13_0 rfl (Za f11_0) (Rep.len (Q2 f11_0)) (by decide) Z8)),Z9 (x:=({ code:=Zr.zd,n:=x2,values:=r12.1 }:GReply)) k13_1 hd13⟩
 refine Qd (Zx [(1,.int .i64 x2),(2,v11_0)] tb40 (Yv rfl (Yv rfl Vk)) hf13) ?_
 obtain ⟨d17,hd16,hz⟩:=Qb hz
 refine Qt (Q7 0 3 hS rfl zb4 rfl rfl ha13 rfl rfl (Lf (rr zb4) ha13) hd16 ?_)
 intro cs16 w15 hb16 ha16 hs16 hS
 refine Qf (Qa ?_)
 cases hz
 exact Q4 (Jt (j:=0) rfl rfl (by rw [Rep.len hb16];exact Ko) hS rfl ⟨_,M11,_,rfl,hE,(hS.sel (H':=[.box bx1 cx1 90]) [1] (by decide) rfl),cs16,rfl,rfl,hb16⟩)
def clCome_j1 (fu:Nat) (x1:GCluster) (l3:List ByteArray) (x4:Int) (x6:ByteArray) (d18:GNode) (l19:List GFrame) (y21:Int):Option (Int × GCluster × (List ByteArray)) :=
 (bif y21 != 0 then
 some (y21,x1,l3)
 else
 (inR x4 6).bind fun _ =>
 (idxV x1.tear x4).bind fun x26 =>
 (bif decide (x26>0) then
 (inR x4 6).bind fun _ =>
 (idxV x1.logs x4).bind fun x34 =>
 (inR x4 6).bind fun _ =>
 (idxV x1.tear x4).bind fun x38 =>
 (bkTearD fu x34 x6 (IntKind.wrap .i64 (x38-1))).bind fun r42 =>
 (inR x4 6).bind fun _ =>
 (chkS r42).bind fun _ =>
 (idxV x1.logs x4).bind fun x49 =>
 (setV x1.logs x4 r42).bind fun a51 =>
 (some ({ x1 with logs:=a51 }:GCluster)).bind fun d53 =>
 (some ({ entries:=Zr.zd,order:=Zr.zd,values:=Zr.zd }:GNode)).bind fun d60 =>
 (inR x4 6).bind fun _ =>
 (idxV d53.nodes x4).bind fun x65 =>
 (setV d53.nodes x4 d60).bind fun a67 =>
 (some ({ d53 with nodes:=a67 }:GCluster)).bind fun d69 =>
 (inR x4 6).bind fun _ =>
 (idxV d69.down x4).bind fun x77 =>
 (setV d69.down x4 true).bind fun a79 =>
 (some ({ d69 with down:=a79 }:GCluster)).bind fun d81 =>
 (inR x4 6).bind fun _ =>
 (idxV d81.tear x4).bind fun x89 =>
 (setV d81.tear x4 0).bind fun a91 =>
 (some ({ d81 with tear:=a91 }:GCluster)).bind fun d93 =>
 some (6,d93,l3)
 else
 (inR x4 6).bind fun _ =>
 (idxV x1.logs x4).bind fun x102 =>
 (bkWriteD fu x102 x6).bind fun r106 =>
 (inR x4 6).bind fun _ =>
 (chkS r106.1).bind fun _ =>
 (idxV x1.logs x4).bind fun x113 =>
 (setV x1.logs x4 r106.1).bind fun a115 =>
 (some ({ x1 with logs:=a115 }:GCluster)).bind fun d117 =>
 (bif r106.2 != 0 then
 some (r106.2,d117,l3)
 else
 (inR x4 6).bind fun _ =>
 (idxV d117.nodes x4).bind fun x129 =>
 (setV d117.nodes x4 d18).bind fun a131 =>
 (some ({ d117 with nodes:=a131 }:GCluster)).bind fun d133 =>
 (clSendD fu d133 l3 l19).bind fun r139 =>
 some (0,r139.1,r139.2))))
def clComeD (fu:Nat) (x1:GCluster) (l3:List ByteArray) (x4:Int) (x5:GFrame) (x6:ByteArray):Option (Int × GCluster × (List ByteArray)) :=
 (inR x4 6).bind fun _ =>
 (idxV x1.down x4).bind fun x11 =>
 (bif x11 then
 some (6,x1,l3)
 else
 (inR x4 6).bind fun _ =>
 (idxV x1.nodes x4).bind fun x146 =>
 (nodeTakeD fu x146 x4 x5).bind fun r152 =>
 (some r152.1).bind fun d157 =>
 clCome_j1 fu x1 l3 x4 x6 d157 r152.2.1 r152.2.2)
set_option maxRecDepth 100000 in
set_option maxHeartbeats 4000000 in
theorem clCome_ok {M:Mm} {w:World} {bx1:Nat} {cx1:List Value} {ux1_6:Value} {xsx1_6:List Value} {cx5:List Value} {x1:GCluster} {l3:List ByteArray} {x4:Int} {x5:GFrame} {x6:ByteArray} {fu:Nat} {r:Int × GCluster × (List ByteArray)} (hS:St w (lentX [.box bx1 cx1 90,.stk ux1_6 9 1 xsx1_6]) M [.box bx1 cx1 90,.stk ux1_6 9 1 xsx1_6] w) (hcx1:rep M cx1 x1) (hkx1_6:skr M ux1_6 xsx1_6 l3) (hpx1_6:sl cx1 1993 1=[ux1_6]) (hcx5:rep M cx5 x5) (hz:clComeD fu x1 l3 x4 x5 x6=some r) :
    Calls Try.prog 68 #[.pointer (some ⟨bx1,0,none⟩),.int .i64 x4,.agg cx5.toArray,.string x6] w (GivesL M w [.box bx1 cx1 90,.stk ux1_6 9 1 xsx1_6] (fun M' u L' => ∃ k0 u1 x1,u = .int .i64 r.1∧L'=[.box bx1 k0 90,.stk u1 9 1 x1]∧rep M' k0 r.2.1∧skr M' u1 x1 r.2.2∧sl k0 1993 1=[u1])):=by
 refine Zh Try.func68 rfl 105 rfl rfl (by kernel_rfl) fun T hT => ?_
 have hT_0:T 0 = .pointer (some ⟨bx1,0,none⟩):=hT 0
 have hT_1:T 1 = .int .i64 x4:=hT 1
 have hT_2:T 2 = .agg cx5.toArray:=hT 2
 have hT_3:T 3 = .string x6:=hT 3
 clear hT
 have hE:=Qg w.heap.size (lentX [.box bx1 cx1 90,.stk ux1_6 9 1 xsx1_6]) M
 rw [clComeD] at hz
 refine Qh <|Qi ?_
 refine Qt (Yq (v := .agg cx5.toArray) (cs:=cx5) hT_2 rfl hS ?_)
 intro b8 w7 hb8 hS
 refine Qd (Qk (.int .i64 0) rfl) ?_
 refine Qf (Qa ?_)
 refine Qh <|Qh <|Qi <|Qd (Qe (.pointer (some ⟨bx1,0,none⟩)) hT_0) <|Qd (Qe (.int .i64 x4) hT_1) <|Qd (Q6 rfl) <|Qd (Qp fa90_2 rfl) ?_
 obtain ⟨u9,hx10,hz⟩:=Qb hz
 obtain ⟨hx10a,hx10b⟩:=Qv hx10
 refine Qd (Zd Ju rfl rfl hx10a hx10b) ?_
 obtain ⟨x11,hx12,hz⟩:=Qb hz
 refine Qd (Ql (.bool x11) Jm rfl (hS.bvB 1 rfl) (vp (k:=1) rfl rfl (Y6 (rr hcx1)) hx12)) ?_
 refine Qf (Qa ?_)
 refine Qs rfl (fun hc13 => ?_) (fun hc13 => ?_)
 replace hz:=Qm hz hc13
 refine Qh <|Qi <|Qd (Qk (.int .i64 6) rfl) ?_
 refine Qf (Qa ?_)
 cases hz
 exact Q4 (Qq (Yi rfl rfl ⟨_,M,_,rfl,hE,(hS.sel (H':=[.box bx1 cx1 90,.stk ux1_6 9 1 xsx1_6]) [1,2] (by decide) rfl),cx1,ux1_6,xsx1_6,rfl,rfl,hcx1,hkx1_6,hpx1_6⟩))
 replace hz:=Qn hz hc13
 refine Qu (Qa ?_)
 refine Qz (fun T' w' => ∃ M15 b17 cs17 d18 v20 l19 y21,Mm.ext w.heap.size (lentX [.box bx1 cx1 90,.stk ux1_6 9 1 xsx1_6]) M M15∧St w (lentX [.box bx1 cx1 90,.stk ux1_6 9 1 xsx1_6]) M15 [.box b17 cs17 34,.box b8 cx5 118,.box bx1 cx1 90,.stk ux1_6 9 1 xsx1_6] w'∧rep M15 cs17 d18∧w.heap.size≤b17∧repL M15 v20 l19∧T' 9 = .pointer (some ⟨b17,0,none⟩)∧T' 0 = .pointer (some ⟨bx1,0,none⟩)∧T' 1 = .int .i64 x4∧T' 3 = .string x6∧T' 10=v20∧T' 11 = .int .i64 y21∧clCome_j1 fu x1 l3 x4 x6 d18 l19 y21=some r) ?_ ?_
 have hF140:=Qg w.heap.size (lentX [.box bx1 cx1 90,.stk ux1_6 9 1 xsx1_6]) M
 refine Yw [.box b8 cx5 118,.box bx1 cx1 90] [] Z7 hS fun w141 hS hG142 hR143=>wy 0 rfl (Qe (.pointer (some ⟨bx1,0,none⟩)) hT_0) (fun _=>hR143) <|wy 1 rfl (Qe (.int .i64 x4) hT_1) (fun _=>hR143) <|wy 2 rfl (Q6 rfl) (fun _=>hR143) <|wy 3 rfl (Qp fa90_0 rfl) (fun _=>hR143) ?_
 obtain ⟨u144,hx145,hz⟩:=Qb hz
 obtain ⟨hx145a,hx145b⟩:=Qv hx145
 refine wy 4 rfl (Zd ia86 rfl rfl hx145a hx145b) (fun _=>hR143) ?_
 obtain ⟨x146,hx147,hz⟩:=Qb hz
 have ha148:=(vp (k:=201) rfl rfl (Y0 (rr hcx1)) hx147)
 refine Y8 5 rfl (Ze Vh rfl (Ys 1 rfl) (Rep.len ha148)) hR143 <|wy 6 rfl (Qe (.int .i64 x4) hT_1) (fun _=>hR143) ?_
 have ha149:=(rr hcx5)
 refine Y8 7 rfl (Ze K2 rfl (Ys 0 rfl) (Rep.len ha149)) hR143 ?_
 obtain ⟨r152,hr151,hz⟩:=Qb hz
 obtain ⟨d157,hd156,hz⟩:=Qb hz
 refine WB_two (i:=8) (j:=13) (by kernel_rfl) rfl rfl (Y2 (vs:=[.agg (sl cx1 (0+0+Int.toNat x4*201) 201).toArray,.int .i64 x4,.agg (sl cx5 (0) 7).toArray]) (rv:=(fun M' u => ∃ c0 v1,u = .tuple #[.agg c0.toArray,v1,.int .i64 r152.2.2]∧rep M' c0 r152.1∧repL M' v1 r152.2.1)) cb81 (Jk rfl rfl rfl) hS (nodeTake_ok hS.agree ha148 ha149 hr151) ?_) (Zi tz34 hS ?_)
 intro u151 M151 w150 hx151 hu151 hS
 obtain ⟨c151_0,v151_1,hq151,f151_0,f151_1⟩:=hu151
 subst hq151
 replace hF140:=Qc hF140 hx151
 replace hG142:=Qc hG142 hx151
 refine Yp hS hG142 fun hR158=>wy 9 rfl (Qe (.tuple #[.agg c151_0.toArray,v151_1,.int .i64 r152.2.2]) rfl) (fun _=>hR158) <|wy 10 rfl (Zc (v := .agg c151_0.toArray) rfl rfl) (fun _=>hR158) <|wy 11 rfl (Zc (v:=v151_1) rfl rfl) (fun _=>hR158) <|wy 12 rfl (Zc (v := .int .i64 r152.2.2) rfl rfl) (fun _=>hR158) ?_
 refine w1 13 rfl (Zi tz34 hS ?_)
 intro b154 w153 hb154 hS
 have zb154:rep M151 (Zr.zc GNode) (Zr.zd:GNode):=Zr.zr
 refine Yp hS hG142 fun hR159 => ?_
 refine w1 14 rfl (Q7 0 201 hS rfl zb154 rfl rfl f151_0 rfl rfl (Lf (rr zb154) f151_0) hd156 ?_)
 intro cs156 w155 hb156 ha156 hs156 hS
 refine Yp hS hG142 fun hR160=>wy 15 rfl (Qk (v151_1) rfl) (fun _=>hR160) <|wy 16 rfl (Qk (.int .i64 r152.2.2) rfl) (fun _=>hR160) ?_
 refine wd (Qa ?_)
 exact ⟨M151,b154,cs156,d157,v151_1,r152.2.1,r152.2.2,hF140,hS,hb156,hb154,f151_1,rfl,hT_0,hT_1,hT_3,rfl,rfl,hz⟩
 intro b154 w153 hb154 hS
 have zb154:rep M (Zr.zc GNode) (Zr.zd:GNode):=Zr.zr
 refine Yp hS hG142 fun hR161 => ?_
 refine w1 8 rfl (Y2 (vs:=[.agg (sl cx1 (0+0+Int.toNat x4*201) 201).toArray,.int .i64 x4,.agg (sl cx5 (0) 7).toArray]) (rv:=(fun M' u => ∃ c0 v1,u = .tuple #[.agg c0.toArray,v1,.int .i64 r152.2.2]∧rep M' c0 r152.1∧repL M' v1 r152.2.1)) cb81 (Jk rfl rfl rfl) hS (nodeTake_ok hS.agree ha148 ha149 hr151) ?_)
 intro u151 M151 w150 hx151 hu151 hS
 obtain ⟨c151_0,v151_1,hq151,f151_0,f151_1⟩:=hu151
 subst hq151
 replace zb154:=Rep.mono hx151.1 zb154
 replace hF140:=Qc hF140 hx151
 replace hG142:=Qc hG142 hx151
 refine Yp hS hG142 fun hR162=>wy 9 rfl (Qe (.tuple #[.agg c151_0.toArray,v151_1,.int .i64 r152.2.2]) rfl) (fun _=>hR162) <|wy 10 rfl (Zc (v := .agg c151_0.toArray) rfl rfl) (fun _=>hR162) <|wy 11 rfl (Zc (v:=v151_1) rfl rfl) (fun _=>hR162) <|wy 12 rfl (Zc (v := .int .i64 r152.2.2) rfl rfl) (fun _=>hR162) ?_
 refine w1 14 rfl (Q7 0 201 hS rfl zb154 rfl rfl f151_0 rfl rfl (Lf (rr zb154) f151_0) hd156 ?_)
 intro cs156 w155 hb156 ha156 hs156 hS
 refine Yp hS hG142 fun hR163=>wy 15 rfl (Qk (v151_1) rfl) (fun _=>hR163) <|wy 16 rfl (Qk (.int .i64 r152.2.2) rfl) (fun _=>hR163) ?_
 refine wd (Qa ?_)
 exact ⟨M151,b154,cs156,d157,v151_1,r152.2.1,r152.2.2,hF140,hS,hb156,hb154,f151_1,rfl,hT_0,hT_1,hT_3,rfl,rfl,hz⟩
 rintro T16 w14 ⟨M15,b17,cs17,d18,v20,l19,y21,hx22,hS,hb17,hs17,hv20,hT16_9,hT16_0,hT16_1,hT16_3,hT16_10,hT16_11,hz⟩
 replace hcx1:=Rep.mono hx22.1 hcx1
 replace hkx1_6:=Zo hx22.1 hkx1_6
 replace hE:=Qc hE hx22
 rw [clCome_j1] at hz
 refine Qh <|Qh <|Qi <|Qd (Qe (.int .i64 y21) hT16_11) <|Qd (Yk rfl rfl) ?_
 refine Qf (Qa ?_)
 refine Qs rfl (fun hc23 => ?_) (fun hc23 => ?_)
 replace hz:=Qm hz hc23
 refine Qh <|Qi <|Qd (Qe (.int .i64 y21) hT16_11) <|Qd (Qk (.int .i64 y21) rfl) ?_
 refine Qf (Qa ?_)
 cases hz
 exact Q4 (Qq (Yi rfl rfl ⟨_,M15,_,rfl,hE,(hS.sel (H':=[.box bx1 cx1 90,.stk ux1_6 9 1 xsx1_6]) [2,3] (by decide) rfl),cx1,ux1_6,xsx1_6,rfl,rfl,hcx1,hkx1_6,hpx1_6⟩))
 replace hz:=Qn hz hc23
 refine Qu (Qa ?_)
 refine Qh <|Qh <|Qi <|Qd (Qe (.pointer (some ⟨bx1,0,none⟩)) hT16_0) <|Qd (Qe (.int .i64 x4) hT16_1) <|Qd (Q6 rfl) <|Qd (Qp fa90_3 rfl) ?_
 obtain ⟨u24,hx25,hz⟩:=Qb hz
 obtain ⟨hx25a,hx25b⟩:=Qv hx25
 refine Qd (Zd ia55 rfl rfl hx25a hx25b) ?_
 obtain ⟨x26,hx27,hz⟩:=Qb hz
 refine Qd (Ql (.int .i64 x26) Yc rfl (hS.bvB 2 rfl) (vp (k:=1) rfl rfl (Vj (rr hcx1)) hx27)) <|Qd (Yx rfl rfl) ?_
 refine Qf (Qa ?_)
 refine Qs rfl (fun hc28 => ?_) (fun hc28 => ?_)
 replace hz:=Qm hz hc28
 refine Qh <|Yw [.box bx1 cx1 90] [20] Z7 hS fun w29 hS hG30 hR31=>wy 0 rfl (Qe (.pointer (some ⟨bx1,0,none⟩)) hT16_0) (fun _=>hR31) <|wy 1 rfl (Qe (.int .i64 x4) hT16_1) (fun _=>hR31) <|wy 2 rfl (Qe (.pointer (some ⟨bx1,0,none⟩)) hT16_0) (fun _=>hR31) <|wy 3 rfl (Qe (.int .i64 x4) hT16_1) (fun _=>hR31) <|wy 4 rfl (Q6 rfl) (fun _=>hR31) <|wy 5 rfl (Qp Jp rfl) (fun _=>hR31) ?_
 obtain ⟨u32,hx33,hz⟩:=Qb hz
 obtain ⟨hx33a,hx33b⟩:=Qv hx33
 refine wy 6 rfl (Zd ia87 rfl rfl hx33a hx33b) (fun _=>hR31) ?_
 obtain ⟨x34,hx35,hz⟩:=Qb hz
 refine Y8 7 rfl (Ql (.string x34) ts9 rfl (Ys 0 rfl) (vp (k:=1) rfl rfl (Yr (rr hcx1)) hx35).1) hR31 <|wy 8 rfl (Qe (.string x6) hT16_3) (fun _=>hR31) <|wy 9 rfl (Qe (.pointer (some ⟨bx1,0,none⟩)) hT16_0) (fun _=>hR31) <|wy 10 rfl (Qe (.int .i64 x4) hT16_1) (fun _=>hR31) <|wy 11 rfl (Q6 rfl) (fun _=>hR31) <|wy 12 rfl (Qp fa90_3 rfl) (fun _=>hR31) ?_
 obtain ⟨u36,hx37,hz⟩:=Qb hz
 obtain ⟨hx37a,hx37b⟩:=Qv hx37
 refine wy 13 rfl (Zd ia55 rfl rfl hx37a hx37b) (fun _=>hR31) ?_
 obtain ⟨x38,hx39,hz⟩:=Qb hz
 refine Y8 14 rfl (Ql (.int .i64 x38) Yc rfl (Ys 0 rfl) (vp (k:=1) rfl rfl (Vj (rr hcx1)) hx39)) hR31 <|wy 15 rfl (Ki rfl rfl) (fun _=>hR31) <|wy 17 rfl (Q6 rfl) (fun _=>hR31) <|wy 18 rfl (Qp Jp rfl) (fun _=>hR31) ?_
 obtain ⟨r42,hr41,hz⟩:=Qb hz
 refine w1 16 rfl (Zz (vs:=[.string x34,.string x6,.int .i64 (IntKind.wrap .i64 (x38-1))]) (v := .string r42) cb82 (Jk rfl rfl rfl) hS (bkTear_ok hS.agree hr41) ?_)
 intro w40 hS
 refine Yp hS hG30 fun hR43 => ?_
 obtain ⟨u44,hx45,hz⟩:=Qb hz
 obtain ⟨hx45a,hx45b⟩:=Qv hx45
 refine wy 19 rfl (Zd ia87 rfl rfl hx45a hx45b) (fun _=>hR43) ?_
 obtain ⟨_,hx47,hz⟩:=Qb hz
 have hx47:=Kh hx47
 obtain ⟨x49,hx50,hz⟩:=Qb hz
 obtain ⟨a51,hx52,hz⟩:=Qb hz
 obtain ⟨d53,hd48,hz⟩:=Qb hz
 have hq55:=(Zm hx50)
 refine w1 20 rfl (Q7 2 1 hS rfl hcx1 rfl rfl (V0 hx47:rep M15 [Value.string r42] r42) rfl rfl (GCluster.u1 (rr hcx1) (vu (k:=1) rfl rfl (Yr (rr hcx1)) (Lf (vp (k:=1) rfl rfl (Yr (rr hcx1)) hx50) (V0 hx47:rep M15 [Value.string r42] r42)) hx52)) hd48 ?_)
 intro cs48 w46 hb48 ha48 hs48 hS
 have hp54:=(ha48 (by omega)).trans hpx1_6
 refine ⟨nB,?_⟩
 refine wd (Qa ?_)
 refine Qh <|Yw [] [] Z7 hS fun w56 hS hG57 hR58=>wy 0 rfl (Qe (.pointer (some ⟨bx1,0,none⟩)) hT16_0) (fun _=>hR58) <|wy 1 rfl (Qe (.int .i64 x4) hT16_1) (fun _=>hR58) <|wy 2 rfl (Qe (.pointer (some ⟨bx1,0,none⟩)) hT16_0) (fun _=>hR58) <|wy 3 rfl (Qe (.int .i64 x4) hT16_1) (fun _=>hR58) <|wy 4 rfl (Qe (.pointer (some ⟨bx1,0,none⟩)) hT16_0) (fun _=>hR58) <|wy 5 rfl (Qe (.int .i64 x4) hT16_1) (fun _=>hR58) ?_
 obtain ⟨d60,hd59,hz⟩:=Qb hz
 obtain ⟨cs59,hf59,ha59⟩ : ∃ cs,fillZ (([(0,192),(192,1),(193,8)]:List (Nat × Nat))[·]?) (Zr.zc GNode) []=some cs∧rep M15 cs d60:=⟨_,Z8,Z9 (x:=({ entries:=Zr.zd,order:=Zr.zd,values:=Zr.zd }:GNode)) (Zr.zr:rep M15 (Zr.zc GNode) (Zr.zd:GNode)) hd59⟩
 refine wy 6 rfl (Zx [] tb34 Vk hf59) (fun _=>hR58) <|wy 7 rfl (Q6 rfl) (fun _=>hR58) <|wy 8 rfl (Qp fa90_0 rfl) (fun _=>hR58) ?_
 obtain ⟨u61,hx62,hz⟩:=Qb hz
 obtain ⟨hx62a,hx62b⟩:=Qv hx62
 refine wy 9 rfl (Zd ia86 rfl rfl hx62a hx62b) (fun _=>hR58) <|wy 11 rfl (Q6 rfl) (fun _=>hR58) <|wy 12 rfl (Qp fa90_2 rfl) (fun _=>hR58) <|wy 15 rfl (Q6 rfl) (fun _=>hR58) <|wy 16 rfl (Qp fa90_3 rfl) (fun _=>hR58) ?_
 obtain ⟨x65,hx66,hz⟩:=Qb hz
 obtain ⟨a67,hx68,hz⟩:=Qb hz
 obtain ⟨d69,hd64,hz⟩:=Qb hz
 have hq71:=(Zm hx66)
 refine w1 10 rfl (Q7 2 201 hS rfl hb48 rfl rfl ha59 rfl rfl (Jb (rr hb48) (vu (k:=201) rfl rfl (Y0 (rr hb48)) (Lf (vp (k:=201) rfl rfl (Y0 (rr hb48)) hx66) ha59) hx68)) hd64 ?_)
 intro cs64 w63 hb64 ha64 hs64 hS
 have hp70:=(ha64 (by omega)).trans hp54
 refine Yp hS hG57 fun hR72 => ?_
 obtain ⟨u73,hx74,hz⟩:=Qb hz
 obtain ⟨hx74a,hx74b⟩:=Qv hx74
 refine wy 13 rfl (Zd Ju rfl rfl hx74a hx74b) (fun _=>hR72) ?_
 obtain ⟨x77,hx78,hz⟩:=Qb hz
 obtain ⟨a79,hx80,hz⟩:=Qb hz
 obtain ⟨d81,hd76,hz⟩:=Qb hz
 have hq83:=(Zm hx78)
 refine w1 14 rfl (Q7 2 1 hS rfl hb64 rfl rfl (rb true:rep M15 _ _) rfl rfl (GCluster.u2 (rr hb64) (vu (k:=1) rfl rfl (Y6 (rr hb64)) (Lf (vp (k:=1) rfl rfl (Y6 (rr hb64)) hx78) (rb true:rep M15 _ _)) hx80)) hd76 ?_)
 intro cs76 w75 hb76 ha76 hs76 hS
 have hp82:=(ha76 (by omega)).trans hp70
 refine Yp hS hG57 fun hR84 => ?_
 obtain ⟨u85,hx86,hz⟩:=Qb hz
 obtain ⟨hx86a,hx86b⟩:=Qv hx86
 refine wy 17 rfl (Zd ia55 rfl rfl hx86a hx86b) (fun _=>hR84) ?_
 obtain ⟨x89,hx90,hz⟩:=Qb hz
 obtain ⟨a91,hx92,hz⟩:=Qb hz
 obtain ⟨d93,hd88,hz⟩:=Qb hz
 have hq95:=(Zm hx90)
 refine w1 18 rfl (Q7 2 1 hS rfl hb76 rfl rfl (ri 0:rep M15 _ _) rfl rfl (GCluster.u3 (rr hb76) (vu (k:=1) rfl rfl (Vj (rr hb76)) (Lf (vp (k:=1) rfl rfl (Vj (rr hb76)) hx90) (ri 0:rep M15 _ _)) hx92)) hd88 ?_)
 intro cs88 w87 hb88 ha88 hs88 hS
 have hp94:=(ha88 (by omega)).trans hp82
 refine Yp hS hG57 fun hR96 => ?_
 refine wd (Qa ?_)
 refine Qh <|Qi <|Qd (Qk (.int .i64 6) rfl) ?_
 refine Qf (Qa ?_)
 cases hz
 exact Q4 (Qq (Yi rfl rfl ⟨_,M15,_,rfl,hE,(hS.sel (H':=[.box bx1 cs88 90,.stk ux1_6 9 1 xsx1_6]) [2,3] (by decide) rfl),cs88,ux1_6,xsx1_6,rfl,rfl,hb88,hkx1_6,hp94⟩))
 replace hz:=Qn hz hc28
 refine Qu (Qa ?_)
 refine Qh <|Qh <|Yw [.box bx1 cx1 90] [16] Z7 hS fun w97 hS hG98 hR99=>wy 0 rfl (Qe (.pointer (some ⟨bx1,0,none⟩)) hT16_0) (fun _=>hR99) <|wy 1 rfl (Qe (.int .i64 x4) hT16_1) (fun _=>hR99) <|wy 2 rfl (Qe (.pointer (some ⟨bx1,0,none⟩)) hT16_0) (fun _=>hR99) <|wy 3 rfl (Qe (.int .i64 x4) hT16_1) (fun _=>hR99) <|wy 4 rfl (Q6 rfl) (fun _=>hR99) <|wy 5 rfl (Qp Jp rfl) (fun _=>hR99) ?_
 obtain ⟨u100,hx101,hz⟩:=Qb hz
 obtain ⟨hx101a,hx101b⟩:=Qv hx101
 refine wy 6 rfl (Zd ia87 rfl rfl hx101a hx101b) (fun _=>hR99) ?_
 obtain ⟨x102,hx103,hz⟩:=Qb hz
 refine Y8 7 rfl (Ql (.string x102) ts9 rfl (Ys 0 rfl) (vp (k:=1) rfl rfl (Yr (rr hcx1)) hx103).1) hR99 <|wy 8 rfl (Qe (.string x6) hT16_3) (fun _=>hR99) <|wy 13 rfl (Q6 rfl) (fun _=>hR99) <|wy 14 rfl (Qp Jp rfl) (fun _=>hR99) ?_
 obtain ⟨r106,hr105,hz⟩:=Qb hz
 refine w1 9 rfl (Zz (vs:=[.string x102,.string x6]) (v := .tuple #[.string r106.1,.int .i64 r106.2]) cb83 (Z6 rfl rfl) hS (bkWrite_ok hS.agree hr105) ?_)
 intro w104 hS
 refine Yp hS hG98 fun hR107=>wy 10 rfl (Qe (.tuple #[.string r106.1,.int .i64 r106.2]) rfl) (fun _=>hR107) <|wy 11 rfl (Zc (v := .string r106.1) rfl rfl) (fun _=>hR107) <|wy 12 rfl (Zc (v := .int .i64 r106.2) rfl rfl) (fun _=>hR107) ?_
 obtain ⟨u108,hx109,hz⟩:=Qb hz
 obtain ⟨hx109a,hx109b⟩:=Qv hx109
 refine wy 15 rfl (Zd ia87 rfl rfl hx109a hx109b) (fun _=>hR107) ?_
 obtain ⟨_,hx111,hz⟩:=Qb hz
 have hx111:=Kh hx111
 obtain ⟨x113,hx114,hz⟩:=Qb hz
 obtain ⟨a115,hx116,hz⟩:=Qb hz
 obtain ⟨d117,hd112,hz⟩:=Qb hz
 have hq119:=(Zm hx114)
 refine w1 16 rfl (Q7 2 1 hS rfl hcx1 rfl rfl (V0 hx111:rep M15 [Value.string r106.1] r106.1) rfl rfl (GCluster.u1 (rr hcx1) (vu (k:=1) rfl rfl (Yr (rr hcx1)) (Lf (vp (k:=1) rfl rfl (Yr (rr hcx1)) hx114) (V0 hx111:rep M15 [Value.string r106.1] r106.1)) hx116)) hd112 ?_)
 intro cs112 w110 hb112 ha112 hs112 hS
 have hp118:=(ha112 (by omega)).trans hpx1_6
 refine ⟨nB,?_⟩
 refine wy 17 rfl (Qk (.int .i64 r106.2) rfl) nB ?_
 refine wd (Qa ?_)
 refine Qh <|Qi <|Qd (Qe (.int .i64 r106.2) rfl) <|Qd (Yk rfl rfl) ?_
 refine Qf (Qa ?_)
 refine Qs rfl (fun hc120 => ?_) (fun hc120 => ?_)
 replace hz:=Qm hz hc120
 refine Qh <|Qi <|Q1 2 rfl ?_
 refine Qf (Qa ?_)
 cases hz
 exact Q4 (Qq (Yi rfl rfl ⟨_,M15,_,rfl,hE,(hS.sel (H':=[.box bx1 cs112 90,.stk ux1_6 9 1 xsx1_6]) [2,3] (by decide) rfl),cs112,ux1_6,xsx1_6,rfl,rfl,hb112,hkx1_6,hp118⟩))
 replace hz:=Qn hz hc120
 refine Qu (Qa ?_)
 refine Qh <|Yw [.box b17 cs17 34] [] Z7 hS fun w121 hS hG122 hR123=>wy 0 rfl (Qe (.pointer (some ⟨bx1,0,none⟩)) hT16_0) (fun _=>hR123) <|wy 1 rfl (Qe (.int .i64 x4) hT16_1) (fun _=>hR123) ?_
 have ha124:=(rr hb17)
 refine Y8 2 rfl (Ze Vh hT16_9 (Ys 0 rfl) (Rep.len ha124)) hR123 <|wy 3 rfl (Q6 rfl) (fun _=>hR123) <|wy 4 rfl (Qp fa90_0 rfl) (fun _=>hR123) ?_
 obtain ⟨u125,hx126,hz⟩:=Qb hz
 obtain ⟨hx126a,hx126b⟩:=Qv hx126
 refine wy 5 rfl (Zd ia86 rfl rfl hx126a hx126b) (fun _=>hR123) ?_
 obtain ⟨x129,hx130,hz⟩:=Qb hz
 obtain ⟨a131,hx132,hz⟩:=Qb hz
 obtain ⟨d133,hd128,hz⟩:=Qb hz
 have hq135:=(Zm hx130)
 refine w1 6 rfl (Q7 2 201 hS rfl hb112 rfl rfl ha124 rfl rfl (Jb (rr hb112) (vu (k:=201) rfl rfl (Y0 (rr hb112)) (Lf (vp (k:=201) rfl rfl (Y0 (rr hb112)) hx130) ha124) hx132)) hd128 ?_)
 intro cs128 w127 hb128 ha128 hs128 hS
 have hp134:=(ha128 (by omega)).trans hp118
 refine Yp hS hG122 fun hR136 => ?_
 refine wd (Qa ?_)
 refine Qh <|Qi <|Qd (Qe (.pointer (some ⟨bx1,0,none⟩)) hT16_0) <|Qd (Qe (v20) hT16_10) ?_
 obtain ⟨r139,hr138,hz⟩:=Qb hz
 refine Qt (Zt (vs:=[.pointer (some ⟨bx1,0,none⟩),v20]) (L:=[.box bx1 cs128 90,.stk ux1_6 9 1 xsx1_6]) (R:=[.box b17 cs17 34,.box b8 cx5 118]) (rv:=(fun M' u L' => ∃ k0 u1 x1,u = .tuple #[]∧L'=[.box bx1 k0 90,.stk u1 9 1 x1]∧rep M' k0 r139.1∧skr M' u1 x1 r139.2∧sl k0 1993 1=[u1])) cb49 (Z6 rfl rfl) hS (hS.sel [2,3,0,1] (by decide) rfl) (fun hS=>clSend_ok hS hb128 hkx1_6 hp134 hv20 hr138) ?_)
 rintro u138 M138 w137 L138 hx138 ⟨k0_138,u1_138,x1_138,rfl,hL138,f138_0,f138_1,f138_2⟩ hS
 replace hS:=hS _ hL138
 replace hE:=Qc hE hx138
 refine Qf (Qa ?_)
 refine Qh <|Qi <|Qd (Qk (.int .i64 0) rfl) ?_
 refine Qf (Qa ?_)
 cases hz
 exact Q4 (Yi rfl rfl ⟨_,M138,_,rfl,hE,(hS.sel (H':=[.box bx1 k0_138 90,.stk u1_138 9 1 x1_138]) [0,1] (by decide) rfl),k0_138,u1_138,x1_138,rfl,rfl,f138_0,f138_1,f138_2⟩)
def clFrame_j4 (fu:Nat) (d36:GFrame) (d49:GCluster) (l52:List ByteArray) (d60:GCase) (l61:List GFrame) (y63:Int):Option (GReply × GCluster × (List ByteArray)) :=
 (bif y63 != 0 then
 (some ({ code:=y63,n:=Zr.zd,values:=Zr.zd }:GReply)).bind fun d67 =>
 (some d67).bind fun d70 =>
 some (d70,d49,l52)
 else
 (inR d36.id 32).bind fun _ =>
 (idxV d49.cases d36.id).bind fun x79 =>
 (setV d49.cases d36.id d60).bind fun a81 =>
 (some ({ d49 with cases:=a81 }:GCluster)).bind fun d83 =>
 (clSendD fu d83 l52 l61).bind fun r89 =>
 (clToldD fu r89.1 d36.id).bind fun r92 =>
 (some r92).bind fun d95 =>
 some (d95,r89.1,r89.2))
def clFrame_j3 (fu:Nat) (d36:GFrame) (d47:GReply) (d49:GCluster) (l52:List ByteArray):Option (GReply × GCluster × (List ByteArray)) :=
 (inR d36.id 32).bind fun _ =>
 (idxV d49.cases d36.id).bind fun x102 =>
 (postTakeD fu x102 d36.id d36).bind fun r108 =>
 (some r108.1).bind fun d113 =>
 clFrame_j4 fu d36 d49 l52 d113 r108.2.1 r108.2.2
def clFrame_j5 (fu:Nat) (d13:GReply) (x16:ByteArray) (d22:GCluster) (l25:List ByteArray) (d36:GFrame) (c124:Bool):Option (GReply × GCluster × (List ByteArray)) :=
 (bif c124 then
 (clComeD fu d22 l25 d36.node d36 x16).bind fun r130 =>
 (bif r130.1 != 0 then
 (some ({ code:=r130.1,n:=Zr.zd,values:=Zr.zd }:GReply)).bind fun d133 =>
 (some d133).bind fun d136 =>
 some (d136,r130.2.1,r130.2.2)
 else
 (some ({ code:=Zr.zd,n:=d36.id,values:=Zr.zd }:GReply)).bind fun d138 =>
 (some d138).bind fun d141 =>
 some (d141,r130.2.1,r130.2.2))
 else
 clFrame_j3 fu d36 d13 d22 l25)
def clFrame_j2 (fu:Nat) (x4:GAct) (d13:GReply) (x16:ByteArray) (d22:GCluster) (l25:List ByteArray):Option (GReply × GCluster × (List ByteArray)) :=
 (decodeD fu x16).bind fun r31 =>
 (some r31.1).bind fun d36 =>
 (bif x4.kind==4 then
 (some ({ code:=Zr.zd,n:=d36.id,values:=Zr.zd }:GReply)).bind fun d39 =>
 (some d39).bind fun d42 =>
 some (d42,d22,l25)
 else
 (bif d36.kind==1 then
 clFrame_j5 fu d13 x16 d22 l25 d36 true
 else
 clFrame_j5 fu d13 x16 d22 l25 d36 (d36.kind==3)))
def clFrame_j1 (fu:Nat) (x1:GCluster) (l3:List ByteArray) (x4:GAct) (d13:GReply):Option (GReply × GCluster × (List ByteArray)) :=
 (idx l3 x4.n).bind fun x16 =>
 (bif x4.kind != 3 then
 (delL l3 x4.n (IntKind.wrap .i64 (x4.n+1))).bind fun l151 =>
 (some ({ x1 with net:=Hole.mk }:GCluster)).bind fun d155 =>
 clFrame_j2 fu x4 d13 x16 d155 l151
 else
 clFrame_j2 fu x4 d13 x16 x1 l3)
def clFrame_j6 (fu:Nat) (x1:GCluster) (l3:List ByteArray) (x4:GAct) (c161:Bool):Option (GReply × GCluster × (List ByteArray)) :=
 (bif c161 then
 (some ({ code:=4,n:=Zr.zd,values:=Zr.zd }:GReply)).bind fun d165 =>
 (some d165).bind fun d168 =>
 some (d168,x1,l3)
 else
 clFrame_j1 fu x1 l3 x4 (Zr.zd:GReply))
def clFrameD (fu:Nat) (x1:GCluster) (l3:List ByteArray) (x4:GAct):Option (GReply × GCluster × (List ByteArray)) :=
 (bif decide (x4.n<0) then
 clFrame_j6 fu x1 l3 x4 true
 else
 clFrame_j6 fu x1 l3 x4 (decide (x4.n≥(l3.length:Int))))
set_option maxRecDepth 100000 in
set_option maxHeartbeats 4000000 in
theorem clFrame_ok {M:Mm} {w:World} {bx1:Nat} {cx1:List Value} {ux1_6:Value} {xsx1_6:List Value} {cx4:List Value} {x1:GCluster} {l3:List ByteArray} {x4:GAct} {fu:Nat} {r:GReply × GCluster × (List ByteArray)} (hS:St w (lentX [.box bx1 cx1 90,.stk ux1_6 9 1 xsx1_6]) M [.box bx1 cx1 90,.stk ux1_6 9 1 xsx1_6] w) (hcx1:rep M cx1 x1) (hkx1_6:skr M ux1_6 xsx1_6 l3) (hpx1_6:sl cx1 1993 1=[ux1_6]) (hcx4:rep M cx4 x4) (hz:clFrameD fu x1 l3 x4=some r) :
    Calls Try.prog 48 #[.pointer (some ⟨bx1,0,none⟩),.agg cx4.toArray] w (GivesL M w [.box bx1 cx1 90,.stk ux1_6 9 1 xsx1_6] (fun M' u L' => ∃ c0 k0 u1 x1,u = .agg c0.toArray∧L'=[.box bx1 k0 90,.stk u1 9 1 x1]∧rep M' c0 r.1∧rep M' k0 r.2.1∧skr M' u1 x1 r.2.2∧sl k0 1993 1=[u1])):=by
 refine Zh Try.func48 rfl 115 rfl rfl (by kernel_rfl) fun T hT => ?_
 have hT_0:T 0 = .pointer (some ⟨bx1,0,none⟩):=hT 0
 have hT_1:T 1 = .agg cx4.toArray:=hT 1
 clear hT
 have hE:=Qg w.heap.size (lentX [.box bx1 cx1 90,.stk ux1_6 9 1 xsx1_6]) M
 rw [clFrameD] at hz
 refine Qh <|Qi ?_
 refine Qt (Yq (v := .agg cx4.toArray) (cs:=cx4) hT_1 rfl hS ?_)
 intro b6 w5 hb6 hS
 refine Qt (Zi tz40 hS ?_)
 intro b8 w7 hb8 hS
 have zb8:rep M (Zr.zc GReply) (Zr.zd:GReply):=Zr.zr
 refine Qf (Qa ?_)
 refine Qz (fun T' w' => ∃ M10 cs12 d13,Mm.ext w.heap.size (lentX [.box bx1 cx1 90,.stk ux1_6 9 1 xsx1_6]) M M10∧St w (lentX [.box bx1 cx1 90,.stk ux1_6 9 1 xsx1_6]) M10 [.box b8 cs12 40,.box b6 cx4 43,.box bx1 cx1 90,.stk ux1_6 9 1 xsx1_6] w'∧rep M10 cs12 d13∧T' 0 = .pointer (some ⟨bx1,0,none⟩)∧T' 3 = .pointer (some ⟨b6,0,none⟩)∧T' 4 = .pointer (some ⟨b8,0,none⟩)∧clFrame_j1 fu x1 l3 x4 d13=some r) ?_ ?_
 have hF157:=Qg w.heap.size (lentX [.box bx1 cx1 90,.stk ux1_6 9 1 xsx1_6]) M
 refine Qz (fun T' w' => ∃ M159 c161,Mm.ext w.heap.size (lentX [.box bx1 cx1 90,.stk ux1_6 9 1 xsx1_6]) M M159∧St w (lentX [.box bx1 cx1 90,.stk ux1_6 9 1 xsx1_6]) M159 [.box b8 (Zr.zc GReply) 40,.box b6 cx4 43,.box bx1 cx1 90,.stk ux1_6 9 1 xsx1_6] w'∧T' 0 = .pointer (some ⟨bx1,0,none⟩)∧T' 3 = .pointer (some ⟨b6,0,none⟩)∧T' 4 = .pointer (some ⟨b8,0,none⟩)∧T' 24 = .bool c161∧clFrame_j6 fu x1 l3 x4 c161=some r) ?_ ?_
 have hF169:=Qg w.heap.size (lentX [.box bx1 cx1 90,.stk ux1_6 9 1 xsx1_6]) M
 refine Yw [.box b6 cx4 43,.box bx1 cx1 90] [] Z7 hS fun w170 hS hG171 hR172=>wy 0 rfl (Qp Kq rfl) (fun _=>hR172) <|Y8 1 rfl (Ql (.int .i64 x4.n) Yc rfl (Ys 0 rfl) (V7 (rr hcx4))) hR172 <|wy 2 rfl (Zq rfl rfl) (fun _=>hR172) <|wy 3 rfl (Qe (.bool (decide (x4.n<0))) rfl) (fun _=>hR172) ?_
 rcases ic hz with ⟨hc173,hz⟩ | ⟨hc173,hz⟩<;>rw [hc173]
 refine Yl 4 (j:=3) rfl rfl rfl rfl (fun _=>hR172) <|Yl 5 (j:=3) rfl rfl rfl rfl (fun _=>hR172) <|Yl 6 (j:=3) rfl rfl rfl rfl (fun _=>hR172) <|Yl 7 (j:=3) rfl rfl rfl rfl (fun _=>hR172) <|Yl 8 (j:=3) rfl rfl rfl rfl (fun _=>hR172) <|Yl 9 (j:=3) rfl rfl rfl rfl (fun _=>hR172) <|Yl 10 (j:=3) rfl rfl rfl rfl (fun _=>hR172) <|Yl 11 (j:=3) rfl rfl rfl rfl (fun _=>hR172) <|wy 12 rfl (Z1 (.bool true) rfl rfl) (fun _=>hR172) ?_
 refine wd (Qa ?_)
 exact ⟨M,true,hF169,hS,hT_0,rfl,rfl,rfl,hz⟩
 refine Kb 4 rfl rfl rfl (Qp Kq rfl) (fun _=>hR172) <|K7 5 rfl rfl rfl (Ql (.int .i64 x4.n) Yc rfl (Ys 0 rfl) (V7 (rr hcx4))) hR172 <|Kb 6 rfl rfl rfl (Qe (.pointer (some ⟨bx1,0,none⟩)) hT_0) (fun _=>hR172) <|Kb 7 rfl rfl rfl (Q6 rfl) (fun _=>hR172) <|Kb 8 rfl rfl rfl (Qp Jq rfl) (fun _=>hR172) <|K7 9 rfl rfl rfl (Ql ux1_6 ts72 rfl (Ys 1 rfl) hpx1_6) hR172 ?_
 obtain ⟨a174,c174,hv174,_⟩:=Vo hkx1_6
 refine Kb 10 rfl rfl rfl (Zj Y4 (Vs hv174 rfl)) (fun _=>hR172) <|Kb 11 rfl rfl rfl (Ve rfl rfl) (fun _=>hR172) <|wy 12 rfl (Zg (.bool (decide (x4.n≥(l3.length:Int)))) rfl rfl) (fun _=>hR172) ?_
 refine wd (Qa ?_)
 exact ⟨M,(decide (x4.n≥(l3.length:Int))),hF169,hS,hT_0,rfl,rfl,rfl,hz⟩
 rintro T160 w158 ⟨M159,c161,hx162,hS,hT160_0,hT160_3,hT160_4,hT160_24,hz⟩
 replace hcx1:=Rep.mono hx162.1 hcx1
 replace hkx1_6:=Zo hx162.1 hkx1_6
 replace zb8:=Rep.mono hx162.1 zb8
 replace hE:=Qc hE hx162
 replace hF157:=Qc hF157 hx162
 rw [clFrame_j6] at hz
 refine Qs hT160_24 (fun hc163 => ?_) (fun hc163 => ?_)
 replace hz:=Qm hz hc163
 refine Qh <|Qi ?_
 have k164_0:=V5 (Zr.zr:rep M159 (Zr.zc GReply) (Zr.zd:GReply)) (ri 4:rep M159 _ _)
 obtain ⟨d165,hd164,hz⟩:=Qb hz
 obtain ⟨cs164,hf164,ha164⟩ : ∃ cs,fillZ (([(0,1),(1,1),(2,1)]:List (Nat × Nat))[·]?) (Zr.zc GReply) [(0,.int .i64 4)]=some cs∧rep M159 cs d165:=⟨_,(Zb (Zr.zr:rep M159 (Zr.zc GReply) (Zr.zd:GReply)) rfl rfl (Rep.len (ri 4:rep M159 _ _)) (by decide) Z8),Z9 (x:=({ code:=4,n:=Zr.zd,values:=Zr.zd }:GReply)) k164_0 hd164⟩
 refine Qd (Zx [(0,.int .i64 4)] tb40 (Yv rfl Vk) hf164) ?_
 obtain ⟨d168,hd167,hz⟩:=Qb hz
 refine Qt (Q7 0 3 hS rfl zb8 hT160_4 rfl ha164 rfl rfl (Lf (rr zb8) ha164) hd167 ?_)
 intro cs167 w166 hb167 ha167 hs167 hS
 refine Qf (Qa ?_)
 cases hz
 exact Q4 (Qq (Jt (j:=0) rfl hT160_4 (by rw [Rep.len hb167];exact Ko) hS rfl ⟨_,M159,_,rfl,hE,(hS.sel (H':=[.box bx1 cx1 90,.stk ux1_6 9 1 xsx1_6]) [2,3] (by decide) rfl),cs167,cx1,ux1_6,xsx1_6,rfl,rfl,hb167,hcx1,hkx1_6,hpx1_6⟩))
 replace hz:=Qn hz hc163
 refine Qu (Qa ?_)
 exact ⟨M159,(Zr.zc GReply),(Zr.zd:GReply),hF157,hS,zb8,hT160_0,hT160_3,hT160_4,hz⟩
 rintro T11 w9 ⟨M10,cs12,d13,hx14,hS,hb12,hT11_0,hT11_3,hT11_4,hz⟩
 replace hcx1:=Rep.mono hx14.1 hcx1
 replace hkx1_6:=Zo hx14.1 hkx1_6
 replace hcx4:=Rep.mono hx14.1 hcx4
 replace hE:=Qc hE hx14
 rw [clFrame_j1] at hz
 refine Qh <|Jr Z7 (by kernel_rfl) hS <|Yh (Qe (.pointer (some ⟨bx1,0,none⟩)) hT11_0) <|Yh (Q6 rfl) <|Yh (Qp Jq rfl) <|Yh (Ql ux1_6 ts72 rfl (bvBS (j:=2) rfl) hpx1_6) <|Yh (Qp Kq hT11_3) <|Yh (Ql (.int .i64 x4.n) Yc rfl (bvBS (j:=1) rfl) (V7 (rr hcx4))) ?_
 obtain ⟨x16,hx15,hz⟩:=Qb hz
 obtain ⟨b15,o15,c15,hv15,hi15,hj15,hM15,hr15⟩:=skv_at (hS.skv (j:=3) rfl hkx1_6) hx15
 replace hr15:rep _ (sl xsx1_6 (o15+Int.toNat x4.n*1) 1) x16:=hr15
 refine Yh (Yn il72 rfl hv15 rfl hi15 hj15) <|Yh (Ql (.string x16) ts9 rfl (bvKS (j:=3) rfl hM15) hr15.1) <|Yh (Qk (.string x16) rfl) <|WQ_nil ?_
 intro w17 hS
 refine (Qa ?_)
 refine Qz (fun T' w' => ∃ M19 cs21 d22 v23 xs24 l25,Mm.ext w.heap.size (lentX [.box bx1 cx1 90,.stk ux1_6 9 1 xsx1_6]) M10 M19∧St w (lentX [.box bx1 cx1 90,.stk ux1_6 9 1 xsx1_6]) M19 [.box b8 cs12 40,.box b6 cx4 43,.box bx1 cs21 90,.stk v23 9 1 xs24] w'∧rep M19 cs21 d22∧skr M19 v23 xs24 l25∧sl cs21 (0+1993) 1=[v23]∧T' 0 = .pointer (some ⟨bx1,0,none⟩)∧T' 3 = .pointer (some ⟨b6,0,none⟩)∧T' 4 = .pointer (some ⟨b8,0,none⟩)∧T' 5 = .string x16∧clFrame_j2 fu x4 d13 x16 d22 l25=some r) ?_ ?_
 have hF144:=Qg w.heap.size (lentX [.box bx1 cx1 90,.stk ux1_6 9 1 xsx1_6]) M10
 refine Qh <|Qi <|Qd (Qp fa43_0 hT11_3) <|Qd (Ql (.int .i64 x4.kind) Yc rfl (hS.bvB 1 rfl) (Ji (rr hcx4))) <|Qd (Yk rfl rfl) ?_
 refine Qf (Qa ?_)
 refine Qs rfl (fun hc145 => ?_) (fun hc145 => ?_)
 replace hz:=Qm hz hc145
 refine Yw [.box b6 cx4 43,.box bx1 cx1 90] [13] Z7 hS fun w146 hS hG147 hR148=>wy 0 rfl (Qe (.pointer (some ⟨bx1,0,none⟩)) hT11_0) (fun _=>hR148) <|wy 1 rfl (Qe (.pointer (some ⟨bx1,0,none⟩)) hT11_0) (fun _=>hR148) <|wy 2 rfl (Q6 rfl) (fun _=>hR148) <|wy 3 rfl (Qp Jq rfl) (fun _=>hR148) <|Y8 4 rfl (Ql ux1_6 ts72 rfl (Ys 1 rfl) hpx1_6) hR148 <|wy 5 rfl (Qp Kq hT11_3) (fun _=>hR148) <|Y8 6 rfl (Ql (.int .i64 x4.n) Yc rfl (Ys 0 rfl) (V7 (rr hcx4))) hR148 <|wy 7 rfl (Qp Kq hT11_3) (fun _=>hR148) <|Y8 8 rfl (Ql (.int .i64 x4.n) Yc rfl (Ys 0 rfl) (V7 (rr hcx4))) hR148 <|wy 9 rfl (Z2 rfl rfl) (fun _=>hR148) ?_
 obtain ⟨l151,hr150,hz⟩:=Qb hz
 refine w1 10 rfl (O_delS (j:=3) cb66 (Jk rfl rfl rfl) hS rfl hkx1_6 hr150 ?_)
 intro v150 xs150 w149 hk150 hS
 refine Yp hS hG147 fun hR152=>wy 11 rfl (Q6 rfl) (fun _=>hR152) <|wy 12 rfl (Qp Jq rfl) (fun _=>hR152) ?_
 obtain ⟨d155,hd154,hz⟩:=Qb hz
 refine w1 13 rfl (Q7 2 1 hS rfl hcx1 rfl rfl (Kk hk150) (skr_cells hk150) rfl (GCluster.u6 (rr hcx1) (Lf (GCluster.p6 (rr hcx1)) (Kk hk150))) hd154 ?_)
 intro cs154 w153 hb154 ha154 hs154 hS
 have hp156:=hs154
 refine ⟨nB,?_⟩
 refine wd (Qa ?_)
 exact ⟨M10,cs154,d155,v150,xs150,l151,hF144,hS,hb154,hk150,hp156,hT11_0,hT11_3,hT11_4,rfl,hz⟩
 replace hz:=Qn hz hc145
 refine Qu (Qa ?_)
 exact ⟨M10,cx1,x1,ux1_6,xsx1_6,l3,hF144,hS,hcx1,hkx1_6,hpx1_6,hT11_0,hT11_3,hT11_4,rfl,hz⟩
 rintro T20 w18 ⟨M19,cs21,d22,v23,xs24,l25,hx28,hS,hb21,hk26,hp27,hT20_0,hT20_3,hT20_4,hT20_5,hz⟩
 rw [clFrame_j2] at hz
 refine Qh <|Qi <|Qd (Qe (.string x16) hT20_5) ?_
 obtain ⟨r31,hr30,hz⟩:=Qb hz
 refine Qt (Y2 (vs:=[.string x16]) (rv:=(fun M' u => ∃ c0,u = .tuple #[.agg c0.toArray,.int .i64 r31.2]∧rep M' c0 r31.1)) cb67 (Zp rfl) hS (decode_ok hS.agree hr30) ?_)
 intro u30 M30 w29 hx30 hu30 hS
 obtain ⟨c30_0,hq30,f30_0⟩:=hu30
 subst hq30
 replace hcx4:=Rep.mono (hx28.1.trans hx30.1) hcx4
 replace hb12:=Rep.mono (hx28.1.trans hx30.1) hb12
 replace hb21:=Rep.mono hx30.1 hb21
 replace hk26:=Zo hx30.1 hk26
 replace hE:=Qc hE (hx28.trans hx30)
 refine Qd (Qe (.tuple #[.agg c30_0.toArray,.int .i64 r31.2]) rfl) <|Qd (Zc (v := .agg c30_0.toArray) rfl rfl) <|Qd (Zc (v := .int .i64 r31.2) rfl rfl) ?_
 refine Qt (Zi tz118 hS ?_)
 intro b33 w32 hb33 hS
 have zb33:rep M30 (Zr.zc GFrame) (Zr.zd:GFrame):=Zr.zr
 obtain ⟨d36,hd35,hz⟩:=Qb hz
 refine Qt (Q7 0 7 hS rfl zb33 rfl rfl f30_0 rfl rfl (Lf (rr zb33) f30_0) hd35 ?_)
 intro cs35 w34 hb35 ha35 hs35 hS
 refine Qd (Qk (.int .i64 r31.2) rfl) ?_
 refine Qf (Qa ?_)
 refine Qh <|Qh <|Qi <|Qd (Qp fa43_0 hT20_3) <|Qd (Ql (.int .i64 x4.kind) Yc rfl (hS.bvB 2 rfl) (Ji (rr hcx4))) <|Qd (Yf rfl rfl) ?_
 refine Qf (Qa ?_)
 refine Qs rfl (fun hc37 => ?_) (fun hc37 => ?_)
 replace hz:=Qm hz hc37
 refine Qh <|Qi <|Qd (Qp Ym rfl) <|Qd (Ql (.int .i64 d36.id) Yc rfl (hS.bvB 0 rfl) (Yd (rr hb35))) ?_
 have k38_0:=GReply.w1 (Zr.zr:rep M30 (Zr.zc GReply) (Zr.zd:GReply)) (ri d36.id:rep M30 _ _)
 obtain ⟨d39,hd38,hz⟩:=Qb hz
 obtain ⟨cs38,hf38,ha38⟩ : ∃ cs,fillZ (([(0,1),(1,1),(2,1)]:List (Nat × Nat))[·]?) (Zr.zc GReply) [(1,.int .i64 d36.id)]=some cs∧rep M30 cs d39:=⟨_,(Zb (Zr.zr:rep M30 (Zr.zc GReply) (Zr.zd:GReply)) rfl rfl (Rep.len (ri d36.id:rep M30 _ _)) (by decide) Z8),Z9 (x:=({ code:=Zr.zd,n:=d36.id,values:=Zr.zd }:GReply)) k38_0 hd38⟩
 refine Qd (Zx [(1,.int .i64 d36.id)] tb40 (Yv rfl Vk) hf38) ?_
 obtain ⟨d42,hd41,hz⟩:=Qb hz
 refine Qt (Q7 1 3 hS rfl hb12 hT20_4 rfl ha38 rfl rfl (Lf (rr hb12) ha38) hd41 ?_)
 intro cs41 w40 hb41 ha41 hs41 hS
 refine Qf (Qa ?_)
 cases hz
 exact Q4 (Qq (Jt (j:=1) rfl hT20_4 (by rw [Rep.len hb41];exact Ko) hS rfl ⟨_,M30,_,rfl,hE,(hS.sel (H':=[.box bx1 cs21 90,.stk v23 9 1 xs24]) [3,4] (by decide) rfl),cs41,cs21,v23,xs24,rfl,rfl,hb41,hb21,hk26,hp27⟩))
 replace hz:=Qn hz hc37
 refine Qu (Qa ?_)
 refine Qz (fun T' w' => ∃ M44 cs46 d47 cs48 d49 v50 xs51 l52,Mm.ext w.heap.size (lentX [.box bx1 cx1 90,.stk ux1_6 9 1 xsx1_6]) M30 M44∧St w (lentX [.box bx1 cx1 90,.stk ux1_6 9 1 xsx1_6]) M44 [.box b33 cs35 118,.box b8 cs46 40,.box b6 cx4 43,.box bx1 cs48 90,.stk v50 9 1 xs51] w'∧rep M44 cs46 d47∧rep M44 cs48 d49∧skr M44 v50 xs51 l52∧sl cs48 (0+1993) 1=[v50]∧T' 0 = .pointer (some ⟨bx1,0,none⟩)∧T' 4 = .pointer (some ⟨b8,0,none⟩)∧T' 6 = .pointer (some ⟨b33,0,none⟩)∧clFrame_j3 fu d36 d47 d49 l52=some r) ?_ ?_
 have hF120:=Qg w.heap.size (lentX [.box bx1 cx1 90,.stk ux1_6 9 1 xsx1_6]) M30
 refine Qz (fun T' w' => ∃ M122 c124,Mm.ext w.heap.size (lentX [.box bx1 cx1 90,.stk ux1_6 9 1 xsx1_6]) M30 M122∧St w (lentX [.box bx1 cx1 90,.stk ux1_6 9 1 xsx1_6]) M122 [.box b33 cs35 118,.box b8 cs12 40,.box b6 cx4 43,.box bx1 cs21 90,.stk v23 9 1 xs24] w'∧T' 0 = .pointer (some ⟨bx1,0,none⟩)∧T' 4 = .pointer (some ⟨b8,0,none⟩)∧T' 5 = .string x16∧T' 6 = .pointer (some ⟨b33,0,none⟩)∧T' 68 = .bool c124∧clFrame_j5 fu d13 x16 d22 l25 d36 c124=some r) ?_ ?_
 have hF142:=Qg w.heap.size (lentX [.box bx1 cx1 90,.stk ux1_6 9 1 xsx1_6]) M30
 refine Qi <|Qd (Qp Vx rfl) <|Qd (Ql (.int .i64 d36.kind) Yc rfl (hS.bvB 0 rfl) (Y1 (rr hb35))) <|Qd (Yf rfl rfl) <|Qd (Qe (.bool (d36.kind==1)) rfl) ?_
 rcases ic hz with ⟨hc143,hz⟩ | ⟨hc143,hz⟩<;>rw [hc143]
 refine Q1 4 rfl ?_
 refine Qf (Qa ?_)
 exact ⟨M30,true,hF142,hS,hT20_0,hT20_4,hT20_5,rfl,rfl,hz⟩
 refine Qj rfl rfl (Qp Vx rfl) <|Qj rfl rfl (Ql (.int .i64 d36.kind) Yc rfl (hS.bvB 0 rfl) (Y1 (rr hb35))) <|Qj rfl rfl (Yf rfl rfl) <|Qd (Zg (.bool (d36.kind==3)) rfl rfl) ?_
 refine Qf (Qa ?_)
 exact ⟨M30,(d36.kind==3),hF142,hS,hT20_0,hT20_4,hT20_5,rfl,rfl,hz⟩
 rintro T123 w121 ⟨M122,c124,hx125,hS,hT123_0,hT123_4,hT123_5,hT123_6,hT123_68,hz⟩
 replace hb12:=Rep.mono hx125.1 hb12
 replace hb21:=Rep.mono hx125.1 hb21
 replace hk26:=Zo hx125.1 hk26
 replace hb35:=Rep.mono hx125.1 hb35
 replace hE:=Qc hE hx125
 replace hF120:=Qc hF120 hx125
 rw [clFrame_j5] at hz
 refine Qs hT123_68 (fun hc126 => ?_) (fun hc126 => ?_)
 replace hz:=Qm hz hc126
 refine Qh <|Qh <|Qi <|Qd (Qe (.pointer (some ⟨bx1,0,none⟩)) hT123_0) <|Qd (Qp Kd hT123_6) <|Qd (Ql (.int .i64 d36.node) Yc rfl (hS.bvB 0 rfl) (Vl (rr hb35))) ?_
 have ha127:=(rr hb35)
 refine Qd (Ze K2 hT123_6 (hS.bvB 0 rfl) (Rep.len ha127)) <|Qd (Qe (.string x16) hT123_5) ?_
 obtain ⟨r130,hr129,hz⟩:=Qb hz
 refine Qt (Zt (vs:=[.pointer (some ⟨bx1,0,none⟩),.int .i64 d36.node,.agg (sl cs35 (0) 7).toArray,.string x16]) (L:=[.box bx1 cs21 90,.stk v23 9 1 xs24]) (R:=[.box b33 cs35 118,.box b8 cs12 40,.box b6 cx4 43]) (rv:=(fun M' u L' => ∃ k0 u1 x1,u = .int .i64 r130.1∧L'=[.box bx1 k0 90,.stk u1 9 1 x1]∧rep M' k0 r130.2.1∧skr M' u1 x1 r130.2.2∧sl k0 1993 1=[u1])) cb68 (args4 rfl rfl rfl rfl) hS (hS.sel [3,4,0,1,2] (by decide) rfl) (fun hS=>clCome_ok hS hb21 hk26 hp27 ha127 hr129) ?_)
 rintro u129 M129 w128 L129 hx129 ⟨k0_129,u1_129,x1_129,rfl,hL129,f129_0,f129_1,f129_2⟩ hS
 replace hS:=hS _ hL129
 replace hb12:=Rep.mono hx129.1 hb12
 replace hb35:=Rep.mono hx129.1 hb35
 replace hE:=Qc hE hx129
 refine Qd (Qk (.int .i64 r130.1) rfl) ?_
 refine Qf (Qa ?_)
 refine Qh <|Qi <|Qd (Qe (.int .i64 r130.1) rfl) <|Qd (Yk rfl rfl) ?_
 refine Qf (Qa ?_)
 refine Qs rfl (fun hc131 => ?_) (fun hc131 => ?_)
 replace hz:=Qm hz hc131
 refine Qh <|Qi <|Qd (Qe (.int .i64 r130.1) rfl) ?_
 have k132_0:=V5 (Zr.zr:rep M129 (Zr.zc GReply) (Zr.zd:GReply)) (ri r130.1:rep M129 _ _)
 obtain ⟨d133,hd132,hz⟩:=Qb hz
 obtain ⟨cs132,hf132,ha132⟩ : ∃ cs,fillZ (([(0,1),(1,1),(2,1)]:List (Nat × Nat))[·]?) (Zr.zc GReply) [(0,.int .i64 r130.1)]=some cs∧rep M129 cs d133:=⟨_,(Zb (Zr.zr:rep M129 (Zr.zc GReply) (Zr.zd:GReply)) rfl rfl (Rep.len (ri r130.1:rep M129 _ _)) (by decide) Z8),Z9 (x:=({ code:=r130.1,n:=Zr.zd,values:=Zr.zd }:GReply)) k132_0 hd132⟩
 refine Qd (Zx [(0,.int .i64 r130.1)] tb40 (Yv rfl Vk) hf132) ?_
 obtain ⟨d136,hd135,hz⟩:=Qb hz
 refine Qt (Q7 3 3 hS rfl hb12 hT123_4 rfl ha132 rfl rfl (Lf (rr hb12) ha132) hd135 ?_)
 intro cs135 w134 hb135 ha135 hs135 hS
 refine Qf (Qa ?_)
 cases hz
 exact Q4 (Qq (Qq (Jt (j:=3) rfl hT123_4 (by rw [Rep.len hb135];exact Ko) hS rfl ⟨_,M129,_,rfl,hE,(hS.sel (H':=[.box bx1 k0_129 90,.stk u1_129 9 1 x1_129]) [0,1] (by decide) rfl),cs135,k0_129,u1_129,x1_129,rfl,rfl,hb135,f129_0,f129_1,f129_2⟩)))
 replace hz:=Qn hz hc131
 refine Qu (Qa ?_)
 refine Qh <|Qi <|Qd (Qp Ym hT123_6) <|Qd (Ql (.int .i64 d36.id) Yc rfl (hS.bvB 2 rfl) (Yd (rr hb35))) ?_
 have k137_0:=GReply.w1 (Zr.zr:rep M129 (Zr.zc GReply) (Zr.zd:GReply)) (ri d36.id:rep M129 _ _)
 obtain ⟨d138,hd137,hz⟩:=Qb hz
 obtain ⟨cs137,hf137,ha137⟩ : ∃ cs,fillZ (([(0,1),(1,1),(2,1)]:List (Nat × Nat))[·]?) (Zr.zc GReply) [(1,.int .i64 d36.id)]=some cs∧rep M129 cs d138:=⟨_,(Zb (Zr.zr:rep M129 (Zr.zc GReply) (Zr.zd:GReply)) rfl rfl (Rep.len (ri d36.id:rep M129 _ _)) (by decide) Z8),Z9 (x:=({ code:=Zr.zd,n:=d36.id,values:=Zr.zd }:GReply)) k137_0 hd137⟩
 refine Qd (Zx [(1,.int .i64 d36.id)] tb40 (Yv rfl Vk) hf137) ?_
 obtain ⟨d141,hd140,hz⟩:=Qb hz
 refine Qt (Q7 3 3 hS rfl hb12 hT123_4 rfl ha137 rfl rfl (Lf (rr hb12) ha137) hd140 ?_)
 intro cs140 w139 hb140 ha140 hs140 hS
 refine Qf (Qa ?_)
 cases hz
 exact Q4 (Qq (Jt (j:=3) rfl hT123_4 (by rw [Rep.len hb140];exact Ko) hS rfl ⟨_,M129,_,rfl,hE,(hS.sel (H':=[.box bx1 k0_129 90,.stk u1_129 9 1 x1_129]) [0,1] (by decide) rfl),cs140,k0_129,u1_129,x1_129,rfl,rfl,hb140,f129_0,f129_1,f129_2⟩))
 replace hz:=Qn hz hc126
 refine Qu (Qa ?_)
 exact ⟨M122,cs12,d13,cs21,d22,v23,xs24,l25,hF120,hS,hb12,hb21,hk26,hp27,hT123_0,hT123_4,hT123_6,hz⟩
 rintro T45 w43 ⟨M44,cs46,d47,cs48,d49,v50,xs51,l52,hx55,hS,hb46,hb48,hk53,hp54,hT45_0,hT45_4,hT45_6,hz⟩
 replace hb35:=Rep.mono hx55.1 hb35
 replace hE:=Qc hE hx55
 rw [clFrame_j3] at hz
 refine Qz (fun T' w' => ∃ M57 b59 cs59 d60 v62 l61 y63,Mm.ext w.heap.size (lentX [.box bx1 cx1 90,.stk ux1_6 9 1 xsx1_6]) M44 M57∧St w (lentX [.box bx1 cx1 90,.stk ux1_6 9 1 xsx1_6]) M57 [.box b59 cs59 49,.box b33 cs35 118,.box b8 cs46 40,.box b6 cx4 43,.box bx1 cs48 90,.stk v50 9 1 xs51] w'∧rep M57 cs59 d60∧w.heap.size≤b59∧repL M57 v62 l61∧T' 9 = .pointer (some ⟨b59,0,none⟩)∧T' 0 = .pointer (some ⟨bx1,0,none⟩)∧T' 4 = .pointer (some ⟨b8,0,none⟩)∧T' 6 = .pointer (some ⟨b33,0,none⟩)∧T' 10=v62∧T' 11 = .int .i64 y63∧clFrame_j4 fu d36 d49 l52 d60 l61 y63=some r) ?_ ?_
 have hF96:=Qg w.heap.size (lentX [.box bx1 cx1 90,.stk ux1_6 9 1 xsx1_6]) M44
 refine Yw [.box b33 cs35 118,.box bx1 cs48 90] [] Z7 hS fun w97 hS hG98 hR99=>wy 0 rfl (Qe (.pointer (some ⟨bx1,0,none⟩)) hT45_0) (fun _=>hR99) <|wy 1 rfl (Qp Ym hT45_6) (fun _=>hR99) <|Y8 2 rfl (Ql (.int .i64 d36.id) Yc rfl (Ys 0 rfl) (Yd (rr hb35))) hR99 <|wy 3 rfl (Q6 rfl) (fun _=>hR99) <|wy 4 rfl (Qp fa90_4 rfl) (fun _=>hR99) ?_
 obtain ⟨u100,hx101,hz⟩:=Qb hz
 obtain ⟨hx101a,hx101b⟩:=Qv hx101
 refine wy 5 rfl (Zd ia88 rfl rfl hx101a hx101b) (fun _=>hR99) ?_
 obtain ⟨x102,hx103,hz⟩:=Qb hz
 have ha104:=(vp (k:=24) rfl rfl (Vi (rr hb48)) hx103)
 refine Y8 6 rfl (Ze Vg rfl (Ys 1 rfl) (Rep.len ha104)) hR99 <|wy 7 rfl (Qp Ym hT45_6) (fun _=>hR99) <|Y8 8 rfl (Ql (.int .i64 d36.id) Yc rfl (Ys 0 rfl) (Yd (rr hb35))) hR99 ?_
 have ha105:=(rr hb35)
 refine Y8 9 rfl (Ze K2 hT45_6 (Ys 0 rfl) (Rep.len ha105)) hR99 ?_
 obtain ⟨r108,hr107,hz⟩:=Qb hz
 obtain ⟨d113,hd112,hz⟩:=Qb hz
 refine WB_two (i:=10) (j:=15) (by kernel_rfl) rfl rfl (Y2 (vs:=[.agg (sl cs48 (0+1224+Int.toNat d36.id*24) 24).toArray,.int .i64 d36.id,.agg (sl cs35 (0) 7).toArray]) (rv:=(fun M' u => ∃ c0 v1,u = .tuple #[.agg c0.toArray,v1,.int .i64 r108.2.2]∧rep M' c0 r108.1∧repL M' v1 r108.2.1)) cb69 (Jk rfl rfl rfl) hS (postTake_ok hS.agree ha104 ha105 hr107) ?_) (Zi tz49 hS ?_)
 intro u107 M107 w106 hx107 hu107 hS
 obtain ⟨c107_0,v107_1,hq107,f107_0,f107_1⟩:=hu107
 subst hq107
 replace hF96:=Qc hF96 hx107
 replace hG98:=Qc hG98 hx107
 refine Yp hS hG98 fun hR114=>wy 11 rfl (Qe (.tuple #[.agg c107_0.toArray,v107_1,.int .i64 r108.2.2]) rfl) (fun _=>hR114) <|wy 12 rfl (Zc (v := .agg c107_0.toArray) rfl rfl) (fun _=>hR114) <|wy 13 rfl (Zc (v:=v107_1) rfl rfl) (fun _=>hR114) <|wy 14 rfl (Zc (v := .int .i64 r108.2.2) rfl rfl) (fun _=>hR114) ?_
 refine w1 15 rfl (Zi tz49 hS ?_)
 intro b110 w109 hb110 hS
 have zb110:rep M107 (Zr.zc GCase) (Zr.zd:GCase):=Zr.zr
 refine Yp hS hG98 fun hR115 => ?_
 refine w1 16 rfl (Q7 0 24 hS rfl zb110 rfl rfl f107_0 rfl rfl (Lf (rr zb110) f107_0) hd112 ?_)
 intro cs112 w111 hb112 ha112 hs112 hS
 refine Yp hS hG98 fun hR116=>wy 17 rfl (Qk (v107_1) rfl) (fun _=>hR116) <|wy 18 rfl (Qk (.int .i64 r108.2.2) rfl) (fun _=>hR116) ?_
 refine wd (Qa ?_)
 exact ⟨M107,b110,cs112,d113,v107_1,r108.2.1,r108.2.2,hF96,hS,hb112,hb110,f107_1,rfl,hT45_0,hT45_4,hT45_6,rfl,rfl,hz⟩
 intro b110 w109 hb110 hS
 have zb110:rep M44 (Zr.zc GCase) (Zr.zd:GCase):=Zr.zr
 refine Yp hS hG98 fun hR117 => ?_
 refine w1 10 rfl (Y2 (vs:=[.agg (sl cs48 (0+1224+Int.toNat d36.id*24) 24).toArray,.int .i64 d36.id,.agg (sl cs35 (0) 7).toArray]) (rv:=(fun M' u => ∃ c0 v1,u = .tuple #[.agg c0.toArray,v1,.int .i64 r108.2.2]∧rep M' c0 r108.1∧repL M' v1 r108.2.1)) cb69 (Jk rfl rfl rfl) hS (postTake_ok hS.agree ha104 ha105 hr107) ?_)
 intro u107 M107 w106 hx107 hu107 hS
 obtain ⟨c107_0,v107_1,hq107,f107_0,f107_1⟩:=hu107
 subst hq107
 replace zb110:=Rep.mono hx107.1 zb110
 replace hF96:=Qc hF96 hx107
 replace hG98:=Qc hG98 hx107
 refine Yp hS hG98 fun hR118=>wy 11 rfl (Qe (.tuple #[.agg c107_0.toArray,v107_1,.int .i64 r108.2.2]) rfl) (fun _=>hR118) <|wy 12 rfl (Zc (v := .agg c107_0.toArray) rfl rfl) (fun _=>hR118) <|wy 13 rfl (Zc (v:=v107_1) rfl rfl) (fun _=>hR118) <|wy 14 rfl (Zc (v := .int .i64 r108.2.2) rfl rfl) (fun _=>hR118) ?_
 refine w1 16 rfl (Q7 0 24 hS rfl zb110 rfl rfl f107_0 rfl rfl (Lf (rr zb110) f107_0) hd112 ?_)
 intro cs112 w111 hb112 ha112 hs112 hS
 refine Yp hS hG98 fun hR119=>wy 17 rfl (Qk (v107_1) rfl) (fun _=>hR119) <|wy 18 rfl (Qk (.int .i64 r108.2.2) rfl) (fun _=>hR119) ?_
 refine wd (Qa ?_)
 exact ⟨M107,b110,cs112,d113,v107_1,r108.2.1,r108.2.2,hF96,hS,hb112,hb110,f107_1,rfl,hT45_0,hT45_4,hT45_6,rfl,rfl,hz⟩
 rintro T58 w56 ⟨M57,b59,cs59,d60,v62,l61,y63,hx64,hS,hb59,hs59,hv62,hT58_9,hT58_0,hT58_4,hT58_6,hT58_10,hT58_11,hz⟩
 replace hb35:=Rep.mono hx64.1 hb35
 replace hb46:=Rep.mono hx64.1 hb46
 replace hb48:=Rep.mono hx64.1 hb48
 replace hk53:=Zo hx64.1 hk53
 replace hE:=Qc hE hx64
 rw [clFrame_j4] at hz
 refine Qh <|Qh <|Qi <|Qd (Qe (.int .i64 y63) hT58_11) <|Qd (Yk rfl rfl) ?_
 refine Qf (Qa ?_)
 refine Qs rfl (fun hc65 => ?_) (fun hc65 => ?_)
 replace hz:=Qm hz hc65
 refine Qh <|Qi <|Qd (Qe (.int .i64 y63) hT58_11) ?_
 have k66_0:=V5 (Zr.zr:rep M57 (Zr.zc GReply) (Zr.zd:GReply)) (ri y63:rep M57 _ _)
 obtain ⟨d67,hd66,hz⟩:=Qb hz
 obtain ⟨cs66,hf66,ha66⟩ : ∃ cs,fillZ (([(0,1),(1,1),(2,1)]:List (Nat × Nat))[·]?) (Zr.zc GReply) [(0,.int .i64 y63)]=some cs∧rep M57 cs d67:=⟨_,(Zb (Zr.zr:rep M57 (Zr.zc GReply) (Zr.zd:GReply)) rfl rfl (Rep.len (ri y63:rep M57 _ _)) (by decide) Z8),Z9 (x:=({ code:=y63,n:=Zr.zd,values:=Zr.zd }:GReply)) k66_0 hd66⟩
 refine Qd (Zx [(0,.int .i64 y63)] tb40 (Yv rfl Vk) hf66) ?_
 obtain ⟨d70,hd69,hz⟩:=Qb hz
 refine Qt (Q7 2 3 hS rfl hb46 hT58_4 rfl ha66 rfl rfl (Lf (rr hb46) ha66) hd69 ?_)
 intro cs69 w68 hb69 ha69 hs69 hS
 refine Qf (Qa ?_)
 cases hz
 exact Q4 (Qq (Jt (j:=2) rfl hT58_4 (by rw [Rep.len hb69];exact Ko) hS rfl ⟨_,M57,_,rfl,hE,(hS.sel (H':=[.box bx1 cs48 90,.stk v50 9 1 xs51]) [4,5] (by decide) rfl),cs69,cs48,v50,xs51,rfl,rfl,hb69,hb48,hk53,hp54⟩))
 replace hz:=Qn hz hc65
 refine Qu (Qa ?_)
 refine Qh <|Yw [.box b59 cs59 49,.box b33 cs35 118] [] Z7 hS fun w71 hS hG72 hR73=>wy 0 rfl (Qe (.pointer (some ⟨bx1,0,none⟩)) hT58_0) (fun _=>hR73) <|wy 1 rfl (Qp Ym hT58_6) (fun _=>hR73) <|Y8 2 rfl (Ql (.int .i64 d36.id) Yc rfl (Ys 1 rfl) (Yd (rr hb35))) hR73 ?_
 have ha74:=(rr hb59)
 refine Y8 3 rfl (Ze Vg hT58_9 (Ys 0 rfl) (Rep.len ha74)) hR73 <|wy 4 rfl (Q6 rfl) (fun _=>hR73) <|wy 5 rfl (Qp fa90_4 rfl) (fun _=>hR73) ?_
 obtain ⟨u75,hx76,hz⟩:=Qb hz
 obtain ⟨hx76a,hx76b⟩:=Qv hx76
 refine wy 6 rfl (Zd ia88 rfl rfl hx76a hx76b) (fun _=>hR73) ?_
 obtain ⟨x79,hx80,hz⟩:=Qb hz
 obtain ⟨a81,hx82,hz⟩:=Qb hz
 obtain ⟨d83,hd78,hz⟩:=Qb hz
 have hq85:=(Zm hx80)
 refine w1 7 rfl (Q7 4 24 hS rfl hb48 rfl rfl ha74 rfl rfl (GCluster.u4 (rr hb48) (vu (k:=24) rfl rfl (Vi (rr hb48)) (Lf (vp (k:=24) rfl rfl (Vi (rr hb48)) hx80) ha74) hx82)) hd78 ?_)
 intro cs78 w77 hb78 ha78 hs78 hS
 have hp84:=(ha78 (by omega)).trans hp54
 refine Yp hS hG72 fun hR86 => ?_
 refine wd (Qa ?_)
 refine Qh <|Qi <|Qd (Qe (.pointer (some ⟨bx1,0,none⟩)) hT58_0) <|Qd (Qe (v62) hT58_10) ?_
 obtain ⟨r89,hr88,hz⟩:=Qb hz
 refine Qt (Zt (vs:=[.pointer (some ⟨bx1,0,none⟩),v62]) (L:=[.box bx1 cs78 90,.stk v50 9 1 xs51]) (R:=[.box b59 cs59 49,.box b33 cs35 118,.box b8 cs46 40,.box b6 cx4 43]) (rv:=(fun M' u L' => ∃ k0 u1 x1,u = .tuple #[]∧L'=[.box bx1 k0 90,.stk u1 9 1 x1]∧rep M' k0 r89.1∧skr M' u1 x1 r89.2∧sl k0 1993 1=[u1])) cb49 (Z6 rfl rfl) hS (hS.sel [4,5,0,1,2,3] (by decide) rfl) (fun hS=>clSend_ok hS hb78 hk53 hp84 hv62 hr88) ?_)
 rintro u88 M88 w87 L88 hx88 ⟨k0_88,u1_88,x1_88,rfl,hL88,f88_0,f88_1,f88_2⟩ hS
 replace hS:=hS _ hL88
 replace hb35:=Rep.mono hx88.1 hb35
 refine Qf (Qa ?_)
 refine Qh <|Qi <|Qd (Qe (.pointer (some ⟨bx1,0,none⟩)) hT58_0) <|Qd (Qp Ym hT58_6) <|Qd (Ql (.int .i64 d36.id) Yc rfl (hS.bvB 3 rfl) (Yd (rr hb35))) ?_
 obtain ⟨r92,hr91,hz⟩:=Qb hz
 refine Qt (Zt (vs:=[.pointer (some ⟨bx1,0,none⟩),.int .i64 d36.id]) (L:=[.box bx1 k0_88 90]) (R:=[.stk u1_88 9 1 x1_88,.box b59 cs59 49,.box b33 cs35 118,.box b8 cs46 40,.box b6 cx4 43]) (rv:=(fun M' u L' => ∃ c0,u = .agg c0.toArray∧L'=[.box bx1 k0_88 90]∧rep M' c0 r92)) cb51 (Z6 rfl rfl) hS (hS.sel [0,1,2,3,4,5] (by decide) rfl) (fun hS=>clTold_ok hS f88_0 hr91) ?_)
 rintro u91 M91 w90 L91 hx91 ⟨c0_91,rfl,hL91,f91_0⟩ hS
 replace hS:=hS _ hL91
 replace hb46:=Rep.mono (hx88.1.trans hx91.1) hb46
 replace f88_0:=Rep.mono hx91.1 f88_0
 replace f88_1:=Zo hx91.1 f88_1
 replace hE:=Qc hE (hx88.trans hx91)
 obtain ⟨d95,hd94,hz⟩:=Qb hz
 refine Qt (Q7 4 3 hS rfl hb46 hT58_4 rfl f91_0 rfl rfl (Lf (rr hb46) f91_0) hd94 ?_)
 intro cs94 w93 hb94 ha94 hs94 hS
 refine Qf (Qa ?_)
 cases hz
 exact Q4 (Jt (j:=4) rfl hT58_4 (by rw [Rep.len hb94];exact Ko) hS rfl ⟨_,M91,_,rfl,hE,(hS.sel (H':=[.box bx1 k0_88 90,.stk u1_88 9 1 x1_88]) [0,1] (by decide) rfl),cs94,k0_88,u1_88,x1_88,rfl,rfl,hb94,f88_0,f88_1,f88_2⟩)
def clPower_j1 (d13:GReply) (d15:GCluster) (l18:List ByteArray):Option (GReply × GCluster × (List ByteArray)) :=
 (some ({ code:=Zr.zd,n:=Zr.zd,values:=Zr.zd }:GReply)).bind fun d23 =>
 (some d23).bind fun d26 =>
 some (d26,d15,l18)
def clPower_j2 (fu:Nat) (x1:GCluster) (l3:List ByteArray) (x4:GAct) (c31:Bool):Option (GReply × GCluster × (List ByteArray)) :=
 (bif c31 then
 (some ({ code:=2,n:=Zr.zd,values:=Zr.zd }:GReply)).bind fun d35 =>
 (some d35).bind fun d38 =>
 some (d38,x1,l3)
 else
 (inR x4.n 6).bind fun _ =>
 (idxV x1.down x4.n).bind fun x41 =>
 (bif !(x41==(x4.kind==8)) then
 (some ({ code:=6,n:=Zr.zd,values:=Zr.zd }:GReply)).bind fun d46 =>
 (some d46).bind fun d49 =>
 some (d49,x1,l3)
 else
 (bif x4.kind==7 then
 (inR x4.n 6).bind fun _ =>
 (idxV x1.tear x4.n).bind fun x58 =>
 (setV x1.tear x4.n (IntKind.wrap .i64 (x4.m+1))).bind fun a60 =>
 (some ({ x1 with tear:=a60 }:GCluster)).bind fun d62 =>
 clPower_j1 (Zr.zd:GReply) d62 l3
 else
 (bif x4.kind==6 then
 (some ({ entries:=Zr.zd,order:=Zr.zd,values:=Zr.zd }:GNode)).bind fun d71 =>
 (inR x4.n 6).bind fun _ =>
 (idxV x1.nodes x4.n).bind fun x76 =>
 (setV x1.nodes x4.n d71).bind fun a78 =>
 (some ({ x1 with nodes:=a78 }:GCluster)).bind fun d80 =>
 (inR x4.n 6).bind fun _ =>
 (idxV d80.down x4.n).bind fun x88 =>
 (setV d80.down x4.n true).bind fun a90 =>
 (some ({ d80 with down:=a90 }:GCluster)).bind fun d92 =>
 (inR x4.n 6).bind fun _ =>
 (idxV d92.tear x4.n).bind fun x100 =>
 (setV d92.tear x4.n 0).bind fun a102 =>
 (some ({ d92 with tear:=a102 }:GCluster)).bind fun d104 =>
 clPower_j1 (Zr.zd:GReply) d104 l3
 else
 (inR x4.n 6).bind fun _ =>
 (idxV x1.logs x4.n).bind fun x110 =>
 (bkReadD fu x110).bind fun r114 =>
 (inR x4.n 6).bind fun _ =>
 (idxV x1.logs x4.n).bind fun x120 =>
 (cutB x120 none (some r114.2)).bind fun s123 =>
 (inR x4.n 6).bind fun _ =>
 (chkS s123).bind fun _ =>
 (idxV x1.logs x4.n).bind fun x129 =>
 (setV x1.logs x4.n s123).bind fun a131 =>
 (some ({ x1 with logs:=a131 }:GCluster)).bind fun d133 =>
 (nodeReplayD fu x4.n r114.1).bind fun r141 =>
 (inR x4.n 6).bind fun _ =>
 (idxV d133.nodes x4.n).bind fun x147 =>
 (setV d133.nodes x4.n r141.1).bind fun a149 =>
 (some ({ d133 with nodes:=a149 }:GCluster)).bind fun d151 =>
 (inR x4.n 6).bind fun _ =>
 (idxV d151.down x4.n).bind fun x159 =>
 (setV d151.down x4.n false).bind fun a161 =>
 (some ({ d151 with down:=a161 }:GCluster)).bind fun d163 =>
 clPower_j1 (Zr.zd:GReply) d163 l3))))
def clPowerD (fu:Nat) (x1:GCluster) (l3:List ByteArray) (x4:GAct):Option (GReply × GCluster × (List ByteArray)) :=
 (bif decide (x4.n<0) then
 clPower_j2 fu x1 l3 x4 true
 else
 (bif decide (x4.n≥6) then
 clPower_j2 fu x1 l3 x4 true
 else
 (bif x4.kind==7 then
 (bif decide (x4.m<0) then
 clPower_j2 fu x1 l3 x4 true
 else
 clPower_j2 fu x1 l3 x4 (decide (x4.m>400)))
 else
 clPower_j2 fu x1 l3 x4 false)))
set_option maxRecDepth 100000 in
set_option maxHeartbeats 4000000 in
theorem clPower_ok {M:Mm} {w:World} {bx1:Nat} {cx1:List Value} {ux1_6:Value} {xsx1_6:List Value} {cx4:List Value} {x1:GCluster} {l3:List ByteArray} {x4:GAct} {fu:Nat} {r:GReply × GCluster × (List ByteArray)} (hS:St w (lentX [.box bx1 cx1 90,.stk ux1_6 9 1 xsx1_6]) M [.box bx1 cx1 90,.stk ux1_6 9 1 xsx1_6] w) (hcx1:rep M cx1 x1) (hkx1_6:skr M ux1_6 xsx1_6 l3) (hpx1_6:sl cx1 1993 1=[ux1_6]) (hcx4:rep M cx4 x4) (hz:clPowerD fu x1 l3 x4=some r) :
    Calls Try.prog 52 #[.pointer (some ⟨bx1,0,none⟩),.agg cx4.toArray] w (GivesL M w [.box bx1 cx1 90,.stk ux1_6 9 1 xsx1_6] (fun M' u L' => ∃ c0 k0 u1 x1,u = .agg c0.toArray∧L'=[.box bx1 k0 90,.stk u1 9 1 x1]∧rep M' c0 r.1∧rep M' k0 r.2.1∧skr M' u1 x1 r.2.2∧sl k0 1993 1=[u1])):=by
 refine Zh Try.func52 rfl 117 rfl rfl (by kernel_rfl) fun T hT => ?_
 have hT_0:T 0 = .pointer (some ⟨bx1,0,none⟩):=hT 0
 have hT_1:T 1 = .agg cx4.toArray:=hT 1
 clear hT
 have hE:=Qg w.heap.size (lentX [.box bx1 cx1 90,.stk ux1_6 9 1 xsx1_6]) M
 rw [clPowerD] at hz
 refine Qh <|Qi ?_
 refine Qt (Yq (v := .agg cx4.toArray) (cs:=cx4) hT_1 rfl hS ?_)
 intro b6 w5 hb6 hS
 refine Qt (Zi tz40 hS ?_)
 intro b8 w7 hb8 hS
 have zb8:rep M (Zr.zc GReply) (Zr.zd:GReply):=Zr.zr
 refine Qf (Qa ?_)
 refine Qh <|Qi <|Qd (Qp Kq rfl) <|Qd (Ql (.int .i64 x4.n) Yc rfl (hS.bvB 1 rfl) (V7 (rr hcx4))) <|Qd (Qk (.int .i64 x4.n) rfl) ?_
 refine Qf (Qa ?_)
 refine Qz (fun T' w' => ∃ M10 cs12 d13 cs14 d15 v16 xs17 l18,Mm.ext w.heap.size (lentX [.box bx1 cx1 90,.stk ux1_6 9 1 xsx1_6]) M M10∧St w (lentX [.box bx1 cx1 90,.stk ux1_6 9 1 xsx1_6]) M10 [.box b8 cs12 40,.box b6 cx4 43,.box bx1 cs14 90,.stk v16 9 1 xs17] w'∧rep M10 cs12 d13∧rep M10 cs14 d15∧skr M10 v16 xs17 l18∧sl cs14 (0+1993) 1=[v16]∧T' 4 = .pointer (some ⟨b8,0,none⟩)∧clPower_j1 d13 d15 l18=some r) ?_ ?_
 have hF27:=Qg w.heap.size (lentX [.box bx1 cx1 90,.stk ux1_6 9 1 xsx1_6]) M
 refine Qy ?_
 refine Qz (fun T' w' => ∃ M29 c31,Mm.ext w.heap.size (lentX [.box bx1 cx1 90,.stk ux1_6 9 1 xsx1_6]) M M29∧St w (lentX [.box bx1 cx1 90,.stk ux1_6 9 1 xsx1_6]) M29 [.box b8 (Zr.zc GReply) 40,.box b6 cx4 43,.box bx1 cx1 90,.stk ux1_6 9 1 xsx1_6] w'∧T' 0 = .pointer (some ⟨bx1,0,none⟩)∧T' 3 = .pointer (some ⟨b6,0,none⟩)∧T' 4 = .pointer (some ⟨b8,0,none⟩)∧T' 5 = .int .i64 x4.n∧T' 49 = .bool c31∧clPower_j2 fu x1 l3 x4 c31=some r) ?_ ?_
 have hF166:=Qg w.heap.size (lentX [.box bx1 cx1 90,.stk ux1_6 9 1 xsx1_6]) M
 refine Qi <|Qd (Qe (.int .i64 x4.n) rfl) <|Qd (Zq rfl rfl) <|Qd (Qe (.bool (decide (x4.n<0))) rfl) ?_
 rcases ic hz with ⟨hc167,hz⟩ | ⟨hc167,hz⟩<;>rw [hc167]
 refine Q1 19 rfl ?_
 refine Qf (Qa ?_)
 exact ⟨M,true,hF166,hS,hT_0,rfl,rfl,rfl,rfl,hz⟩
 refine Qj rfl rfl (Qe (.int .i64 x4.n) rfl) <|Qj rfl rfl (Ve rfl rfl) <|Q1 2 rfl ?_
 rcases ic hz with ⟨hc168,hz⟩ | ⟨hc168,hz⟩<;>rw [hc168]
 refine Q1 15 rfl ?_
 refine Qf (Qa ?_)
 exact ⟨M,true,hF166,hS,hT_0,rfl,rfl,rfl,rfl,hz⟩
 refine Qj rfl rfl (Qp fa43_0 rfl) <|Qj rfl rfl (Ql (.int .i64 x4.kind) Yc rfl (hS.bvB 1 rfl) (Ji (rr hcx4))) <|Qj rfl rfl (Yf rfl rfl) <|Qj rfl rfl (Qe (.bool (x4.kind==7)) rfl) ?_
 rcases ic hz with ⟨hc169,hz⟩ | ⟨hc169,hz⟩<;>rw [hc169]
 refine Qj rfl rfl (Qp fa43_2 rfl) <|Qj rfl rfl (Ql (.int .i64 x4.m) Yc rfl (hS.bvB 1 rfl) (GAct.p2 (rr hcx4))) <|Qj rfl rfl (Zq rfl rfl) <|Qj rfl rfl (Qe (.bool (decide (x4.m<0))) rfl) ?_
 rcases ic hz with ⟨hc170,hz⟩ | ⟨hc170,hz⟩<;>rw [hc170]
 refine Q1 7 rfl ?_
 refine Qf (Qa ?_)
 exact ⟨M,true,hF166,hS,hT_0,rfl,rfl,rfl,rfl,hz⟩
 refine Qj rfl rfl (Qp fa43_2 rfl) <|Qj rfl rfl (Ql (.int .i64 x4.m) Yc rfl (hS.bvB 1 rfl) (GAct.p2 (rr hcx4))) <|Qj rfl rfl (Yx rfl rfl) <|Q1 4 rfl ?_
 refine Qf (Qa ?_)
 exact ⟨M,(decide (x4.m>400)),hF166,hS,hT_0,rfl,rfl,rfl,rfl,hz⟩
 refine Q1 11 rfl ?_
 refine Qf (Qa ?_)
 exact ⟨M,false,hF166,hS,hT_0,rfl,rfl,rfl,rfl,hz⟩
 rintro T30 w28 ⟨M29,c31,hx32,hS,hT30_0,hT30_3,hT30_4,hT30_5,hT30_49,hz⟩
 replace hcx1:=Rep.mono hx32.1 hcx1
 replace hkx1_6:=Zo hx32.1 hkx1_6
 replace hcx4:=Rep.mono hx32.1 hcx4
 replace zb8:=Rep.mono hx32.1 zb8
 replace hE:=Qc hE hx32
 replace hF27:=Qc hF27 hx32
 rw [clPower_j2] at hz
 refine Qs hT30_49 (fun hc33 => ?_) (fun hc33 => ?_)
 replace hz:=Qm hz hc33
 refine Qh <|Qi ?_
 have k34_0:=V5 (Zr.zr:rep M29 (Zr.zc GReply) (Zr.zd:GReply)) (ri 2:rep M29 _ _)
 obtain ⟨d35,hd34,hz⟩:=Qb hz
 obtain ⟨cs34,hf34,ha34⟩ : ∃ cs,fillZ (([(0,1),(1,1),(2,1)]:List (Nat × Nat))[·]?) (Zr.zc GReply) [(0,.int .i64 2)]=some cs∧rep M29 cs d35:=⟨_,(Zb (Zr.zr:rep M29 (Zr.zc GReply) (Zr.zd:GReply)) rfl rfl (Rep.len (ri 2:rep M29 _ _)) (by decide) Z8),Z9 (x:=({ code:=2,n:=Zr.zd,values:=Zr.zd }:GReply)) k34_0 hd34⟩
 refine Qd (Zx [(0,.int .i64 2)] tb40 (Yv rfl Vk) hf34) ?_
 obtain ⟨d38,hd37,hz⟩:=Qb hz
 refine Qt (Q7 0 3 hS rfl zb8 hT30_4 rfl ha34 rfl rfl (Lf (rr zb8) ha34) hd37 ?_)
 intro cs37 w36 hb37 ha37 hs37 hS
 refine Qf (Qa ?_)
 cases hz
 exact Q4 (Zf (Qq (Jt (j:=0) rfl hT30_4 (by rw [Rep.len hb37];exact Ko) hS rfl ⟨_,M29,_,rfl,hE,(hS.sel (H':=[.box bx1 cx1 90,.stk ux1_6 9 1 xsx1_6]) [2,3] (by decide) rfl),cs37,cx1,ux1_6,xsx1_6,rfl,rfl,hb37,hcx1,hkx1_6,hpx1_6⟩)))
 replace hz:=Qn hz hc33
 refine Qh <|Jr Z7 (by kernel_rfl) hS <|Yh (Qe (.pointer (some ⟨bx1,0,none⟩)) hT30_0) <|Yh (Qe (.int .i64 x4.n) hT30_5) <|Yh (Q6 rfl) <|Yh (Qp fa90_2 rfl) ?_
 obtain ⟨u39,hx40,hz⟩:=Qb hz
 obtain ⟨hx40a,hx40b⟩:=Qv hx40
 refine Yh (Zd Ju rfl rfl hx40a hx40b) ?_
 obtain ⟨x41,hx42,hz⟩:=Qb hz
 refine Yh (Ql (.bool x41) Jm rfl (bvBS (j:=2) rfl) (vp (k:=1) rfl rfl (Y6 (rr hcx1)) hx42)) <|Yh (Qp fa43_0 hT30_3) <|Yh (Ql (.int .i64 x4.kind) Yc rfl (bvBS (j:=1) rfl) (Ji (rr hcx4))) <|Yh (Yf rfl rfl) <|Yh (Y_neB rfl rfl K1) <|Yh (Qk (.bool (!(x41==(x4.kind==8)))) rfl) <|WQ_nil ?_
 intro w43 hS
 refine (Qa ?_)
 refine Qs rfl (fun hc44 => ?_) (fun hc44 => ?_)
 replace hz:=Qm hz hc44
 refine Qh <|Qi ?_
 have k45_0:=V5 (Zr.zr:rep M29 (Zr.zc GReply) (Zr.zd:GReply)) (ri 6:rep M29 _ _)
 obtain ⟨d46,hd45,hz⟩:=Qb hz
 obtain ⟨cs45,hf45,ha45⟩ : ∃ cs,fillZ (([(0,1),(1,1),(2,1)]:List (Nat × Nat))[·]?) (Zr.zc GReply) [(0,.int .i64 6)]=some cs∧rep M29 cs d46:=⟨_,(Zb (Zr.zr:rep M29 (Zr.zc GReply) (Zr.zd:GReply)) rfl rfl (Rep.len (ri 6:rep M29 _ _)) (by decide) Z8),Z9 (x:=({ code:=6,n:=Zr.zd,values:=Zr.zd }:GReply)) k45_0 hd45⟩
 refine Qd (Zx [(0,.int .i64 6)] tb40 (Yv rfl Vk) hf45) ?_
 obtain ⟨d49,hd48,hz⟩:=Qb hz
 refine Qt (Q7 0 3 hS rfl zb8 hT30_4 rfl ha45 rfl rfl (Lf (rr zb8) ha45) hd48 ?_)
 intro cs48 w47 hb48 ha48 hs48 hS
 refine Qf (Qa ?_)
 cases hz
 exact Q4 (Zf (Qq (Jt (j:=0) rfl hT30_4 (by rw [Rep.len hb48];exact Ko) hS rfl ⟨_,M29,_,rfl,hE,(hS.sel (H':=[.box bx1 cx1 90,.stk ux1_6 9 1 xsx1_6]) [2,3] (by decide) rfl),cs48,cx1,ux1_6,xsx1_6,rfl,rfl,hb48,hcx1,hkx1_6,hpx1_6⟩)))
 replace hz:=Qn hz hc44
 refine Qh <|Qi <|Qd (Qp fa43_0 hT30_3) <|Qd (Ql (.int .i64 x4.kind) Yc rfl (hS.bvB 1 rfl) (Ji (rr hcx4))) <|Qd (Yf rfl rfl) <|Qd (Qk (.bool (x4.kind==7)) rfl) ?_
 refine Qf (Qa ?_)
 refine Qs rfl (fun hc50 => ?_) (fun hc50 => ?_)
 replace hz:=Qm hz hc50
 refine Yw [.box b6 cx4 43] [] Z7 hS fun w51 hS hG52 hR53=>wy 0 rfl (Qe (.pointer (some ⟨bx1,0,none⟩)) hT30_0) (fun _=>hR53) <|wy 1 rfl (Qe (.int .i64 x4.n) hT30_5) (fun _=>hR53) <|wy 2 rfl (Qp fa43_2 hT30_3) (fun _=>hR53) <|Y8 3 rfl (Ql (.int .i64 x4.m) Yc rfl (Ys 0 rfl) (GAct.p2 (rr hcx4))) hR53 <|wy 4 rfl (Z2 rfl rfl) (fun _=>hR53) <|wy 5 rfl (Q6 rfl) (fun _=>hR53) <|wy 6 rfl (Qp fa90_3 rfl) (fun _=>hR53) ?_
 obtain ⟨u54,hx55,hz⟩:=Qb hz
 obtain ⟨hx55a,hx55b⟩:=Qv hx55
 refine wy 7 rfl (Zd ia55 rfl rfl hx55a hx55b) (fun _=>hR53) ?_
 obtain ⟨x58,hx59,hz⟩:=Qb hz
 obtain ⟨a60,hx61,hz⟩:=Qb hz
 obtain ⟨d62,hd57,hz⟩:=Qb hz
 have hq64:=(Zm hx59)
 refine w1 8 rfl (Q7 2 1 hS rfl hcx1 rfl rfl (ri (IntKind.wrap .i64 (x4.m+1)):rep M29 _ _) rfl rfl (GCluster.u3 (rr hcx1) (vu (k:=1) rfl rfl (Vj (rr hcx1)) (Lf (vp (k:=1) rfl rfl (Vj (rr hcx1)) hx59) (ri (IntKind.wrap .i64 (x4.m+1)):rep M29 _ _)) hx61)) hd57 ?_)
 intro cs57 w56 hb57 ha57 hs57 hS
 have hp63:=(ha57 (by omega)).trans hpx1_6
 refine Yp hS hG52 fun hR65 => ?_
 refine wd (Q8 ?_)
 refine (Qa ?_)
 exact ⟨M29,(Zr.zc GReply),(Zr.zd:GReply),cs57,d62,ux1_6,xsx1_6,l3,hF27,hS,zb8,hb57,hkx1_6,hp63,hT30_4,hz⟩
 replace hz:=Qn hz hc50
 refine Qh <|Qi <|Qd (Qp fa43_0 hT30_3) <|Qd (Ql (.int .i64 x4.kind) Yc rfl (hS.bvB 1 rfl) (Ji (rr hcx4))) <|Qd (Yf rfl rfl) <|Qd (Qk (.bool (x4.kind==6)) rfl) ?_
 refine Qf (Qa ?_)
 refine Qs rfl (fun hc66 => ?_) (fun hc66 => ?_)
 replace hz:=Qm hz hc66
 refine Yw [] [] Z7 hS fun w67 hS hG68 hR69=>wy 0 rfl (Qe (.pointer (some ⟨bx1,0,none⟩)) hT30_0) (fun _=>hR69) <|wy 1 rfl (Qe (.int .i64 x4.n) hT30_5) (fun _=>hR69) <|wy 2 rfl (Qe (.pointer (some ⟨bx1,0,none⟩)) hT30_0) (fun _=>hR69) <|wy 3 rfl (Qe (.int .i64 x4.n) hT30_5) (fun _=>hR69) <|wy 4 rfl (Qe (.pointer (some ⟨bx1,0,none⟩)) hT30_0) (fun _=>hR69) <|wy 5 rfl (Qe (.int .i64 x4.n) hT30_5) (fun _=>hR69) ?_
 obtain ⟨d71,hd70,hz⟩:=Qb hz
 obtain ⟨cs70,hf70,ha70⟩ : ∃ cs,fillZ (([(0,192),(192,1),(193,8)]:List (Nat × Nat))[·]?) (Zr.zc GNode) []=some cs∧rep M29 cs d71:=⟨_,Z8,Z9 (x:=({ entries:=Zr.zd,order:=Zr.zd,values:=Zr.zd }:GNode)) (Zr.zr:rep M29 (Zr.zc GNode) (Zr.zd:GNode)) hd70⟩
 refine wy 6 rfl (Zx [] tb34 Vk hf70) (fun _=>hR69) <|wy 7 rfl (Q6 rfl) (fun _=>hR69) <|wy 8 rfl (Qp fa90_0 rfl) (fun _=>hR69) ?_
 obtain ⟨u72,hx73,hz⟩:=Qb hz
 obtain ⟨hx73a,hx73b⟩:=Qv hx73
 refine wy 9 rfl (Zd ia86 rfl rfl hx73a hx73b) (fun _=>hR69) <|wy 11 rfl (Q6 rfl) (fun _=>hR69) <|wy 12 rfl (Qp fa90_2 rfl) (fun _=>hR69) <|wy 15 rfl (Q6 rfl) (fun _=>hR69) <|wy 16 rfl (Qp fa90_3 rfl) (fun _=>hR69) ?_
 obtain ⟨x76,hx77,hz⟩:=Qb hz
 obtain ⟨a78,hx79,hz⟩:=Qb hz
 obtain ⟨d80,hd75,hz⟩:=Qb hz
 have hq82:=(Zm hx77)
 refine w1 10 rfl (Q7 2 201 hS rfl hcx1 rfl rfl ha70 rfl rfl (Jb (rr hcx1) (vu (k:=201) rfl rfl (Y0 (rr hcx1)) (Lf (vp (k:=201) rfl rfl (Y0 (rr hcx1)) hx77) ha70) hx79)) hd75 ?_)
 intro cs75 w74 hb75 ha75 hs75 hS
 have hp81:=(ha75 (by omega)).trans hpx1_6
 refine Yp hS hG68 fun hR83 => ?_
 obtain ⟨u84,hx85,hz⟩:=Qb hz
 obtain ⟨hx85a,hx85b⟩:=Qv hx85
 refine wy 13 rfl (Zd Ju rfl rfl hx85a hx85b) (fun _=>hR83) ?_
 obtain ⟨x88,hx89,hz⟩:=Qb hz
 obtain ⟨a90,hx91,hz⟩:=Qb hz
 obtain ⟨d92,hd87,hz⟩:=Qb hz
 have hq94:=(Zm hx89)
 refine w1 14 rfl (Q7 2 1 hS rfl hb75 rfl rfl (rb true:rep M29 _ _) rfl rfl (GCluster.u2 (rr hb75) (vu (k:=1) rfl rfl (Y6 (rr hb75)) (Lf (vp (k:=1) rfl rfl (Y6 (rr hb75)) hx89) (rb true:rep M29 _ _)) hx91)) hd87 ?_)
 intro cs87 w86 hb87 ha87 hs87 hS
 have hp93:=(ha87 (by omega)).trans hp81
 refine Yp hS hG68 fun hR95 => ?_
 obtain ⟨u96,hx97,hz⟩:=Qb hz
 obtain ⟨hx97a,hx97b⟩:=Qv hx97
 refine wy 17 rfl (Zd ia55 rfl rfl hx97a hx97b) (fun _=>hR95) ?_
 obtain ⟨x100,hx101,hz⟩:=Qb hz
 obtain ⟨a102,hx103,hz⟩:=Qb hz
 obtain ⟨d104,hd99,hz⟩:=Qb hz
 have hq106:=(Zm hx101)
 refine w1 18 rfl (Q7 2 1 hS rfl hb87 rfl rfl (ri 0:rep M29 _ _) rfl rfl (GCluster.u3 (rr hb87) (vu (k:=1) rfl rfl (Vj (rr hb87)) (Lf (vp (k:=1) rfl rfl (Vj (rr hb87)) hx101) (ri 0:rep M29 _ _)) hx103)) hd99 ?_)
 intro cs99 w98 hb99 ha99 hs99 hS
 have hp105:=(ha99 (by omega)).trans hp93
 refine Yp hS hG68 fun hR107 => ?_
 refine wd (Q8 ?_)
 refine (Qa ?_)
 exact ⟨M29,(Zr.zc GReply),(Zr.zd:GReply),cs99,d104,ux1_6,xsx1_6,l3,hF27,hS,zb8,hb99,hkx1_6,hp105,hT30_4,hz⟩
 replace hz:=Qn hz hc66
 refine Qh <|Qi <|Qd (Qe (.pointer (some ⟨bx1,0,none⟩)) hT30_0) <|Qd (Qe (.int .i64 x4.n) hT30_5) <|Qd (Q6 rfl) <|Qd (Qp Jp rfl) ?_
 obtain ⟨u108,hx109,hz⟩:=Qb hz
 obtain ⟨hx109a,hx109b⟩:=Qv hx109
 refine Qd (Zd ia87 rfl rfl hx109a hx109b) ?_
 obtain ⟨x110,hx111,hz⟩:=Qb hz
 refine Qd (Ql (.string x110) ts9 rfl (hS.bvB 2 rfl) (vp (k:=1) rfl rfl (Yr (rr hcx1)) hx111).1) ?_
 obtain ⟨r114,hr113,hz⟩:=Qb hz
 refine Qt (Y2 (vs:=[.string x110]) (rv:=(fun M' u => ∃ v0,u = .tuple #[v0,.int .i64 r114.2]∧repL M' v0 r114.1)) cb73 (Zp rfl) hS (bkRead_ok hS.agree hr113) ?_)
 intro u113 M113 w112 hx113 hu113 hS
 obtain ⟨v113_0,hq113,f113_0⟩:=hu113
 subst hq113
 replace hcx1:=Rep.mono hx113.1 hcx1
 refine Qd (Qe (.tuple #[v113_0,.int .i64 r114.2]) rfl) <|Qd (Zc (v:=v113_0) rfl rfl) <|Qd (Zc (v := .int .i64 r114.2) rfl rfl) <|Q1 2 rfl ?_
 refine Qf (Qa ?_)
 refine Qh <|Yw [.box bx1 cx1 90] [13] Z7 hS fun w115 hS hG116 hR117=>wy 0 rfl (Qe (.pointer (some ⟨bx1,0,none⟩)) hT30_0) (fun _=>hR117) <|wy 1 rfl (Qe (.int .i64 x4.n) hT30_5) (fun _=>hR117) <|wy 2 rfl (Qe (.pointer (some ⟨bx1,0,none⟩)) hT30_0) (fun _=>hR117) <|wy 3 rfl (Qe (.int .i64 x4.n) hT30_5) (fun _=>hR117) <|wy 4 rfl (Q6 rfl) (fun _=>hR117) <|wy 5 rfl (Qp Jp rfl) (fun _=>hR117) ?_
 obtain ⟨u118,hx119,hz⟩:=Qb hz
 obtain ⟨hx119a,hx119b⟩:=Qv hx119
 refine wy 6 rfl (Zd ia87 rfl rfl hx119a hx119b) (fun _=>hR117) ?_
 obtain ⟨x120,hx121,hz⟩:=Qb hz
 refine Y8 7 rfl (Ql (.string x120) ts9 rfl (Ys 0 rfl) (vp (k:=1) rfl rfl (Yr (rr hcx1)) hx121).1) hR117 <|wy 8 rfl (Qe (.int .i64 r114.2) rfl) (fun _=>hR117) ?_
 obtain ⟨s123,hx122,hz⟩:=Qb hz
 obtain ⟨⟨pp122,qq122⟩,hc122,hx122⟩:=Option.map_eq_some_iff.1 hx122
 refine wy 9 rfl ((hx122 ▸ Y_cutS (l:=none) (h:=(some r114.2)) Q9 rfl evn (evs rfl) hc122)) (fun _=>hR117) <|wy 10 rfl (Q6 rfl) (fun _=>hR117) <|wy 11 rfl (Qp Jp rfl) (fun _=>hR117) ?_
 obtain ⟨u124,hx125,hz⟩:=Qb hz
 obtain ⟨hx125a,hx125b⟩:=Qv hx125
 refine wy 12 rfl (Zd ia87 rfl rfl hx125a hx125b) (fun _=>hR117) ?_
 obtain ⟨_,hx127,hz⟩:=Qb hz
 have hx127:=Kh hx127
 obtain ⟨x129,hx130,hz⟩:=Qb hz
 obtain ⟨a131,hx132,hz⟩:=Qb hz
 obtain ⟨d133,hd128,hz⟩:=Qb hz
 have hq135:=(Zm hx130)
 refine w1 13 rfl (Q7 2 1 hS rfl hcx1 rfl rfl (V0 hx127:rep M113 [Value.string s123] s123) rfl rfl (GCluster.u1 (rr hcx1) (vu (k:=1) rfl rfl (Yr (rr hcx1)) (Lf (vp (k:=1) rfl rfl (Yr (rr hcx1)) hx130) (V0 hx127:rep M113 [Value.string s123] s123)) hx132)) hd128 ?_)
 intro cs128 w126 hb128 ha128 hs128 hS
 have hp134:=(ha128 (by omega)).trans hpx1_6
 refine ⟨nB,?_⟩
 refine wd (Qa ?_)
 refine Qh <|Yw [] [] Z7 hS fun w136 hS hG137 hR138=>wy 0 rfl (Qe (.pointer (some ⟨bx1,0,none⟩)) hT30_0) (fun _=>hR138) <|wy 1 rfl (Qe (.int .i64 x4.n) hT30_5) (fun _=>hR138) <|wy 2 rfl (Qe (.int .i64 x4.n) hT30_5) (fun _=>hR138) <|wy 3 rfl (Qe (v113_0) rfl) (fun _=>hR138) <|wy 8 rfl (Q6 rfl) (fun _=>hR138) <|wy 9 rfl (Qp fa90_0 rfl) (fun _=>hR138) ?_
 obtain ⟨r141,hr140,hz⟩:=Qb hz
 refine w1 4 rfl (Y2 (vs:=[.int .i64 x4.n,v113_0]) (rv:=(fun M' u => ∃ c0,u = .tuple #[.agg c0.toArray,.int .i64 r141.2]∧rep M' c0 r141.1)) cb74 (Z6 rfl rfl) hS (nodeReplay_ok hS.agree f113_0 hr140) ?_)
 intro u140 M140 w139 hx140 hu140 hS
 obtain ⟨c140_0,hq140,f140_0⟩:=hu140
 subst hq140
 replace hkx1_6:=Zo (hx113.1.trans hx140.1) hkx1_6
 replace zb8:=Rep.mono (hx113.1.trans hx140.1) zb8
 replace hb128:=Rep.mono hx140.1 hb128
 replace hF27:=Qc hF27 (hx113.trans hx140)
 replace hG137:=Qc hG137 hx140
 refine Yp hS hG137 fun hR142=>wy 5 rfl (Qe (.tuple #[.agg c140_0.toArray,.int .i64 r141.2]) rfl) (fun _=>hR142) <|wy 6 rfl (Zc (v := .agg c140_0.toArray) rfl rfl) (fun _=>hR142) <|wy 7 rfl (Zc (v := .int .i64 r141.2) rfl rfl) (fun _=>hR142) ?_
 obtain ⟨u143,hx144,hz⟩:=Qb hz
 obtain ⟨hx144a,hx144b⟩:=Qv hx144
 refine wy 10 rfl (Zd ia86 rfl rfl hx144a hx144b) (fun _=>hR142) ?_
 obtain ⟨x147,hx148,hz⟩:=Qb hz
 obtain ⟨a149,hx150,hz⟩:=Qb hz
 obtain ⟨d151,hd146,hz⟩:=Qb hz
 have hq153:=(Zm hx148)
 refine w1 11 rfl (Q7 2 201 hS rfl hb128 rfl rfl f140_0 rfl rfl (Jb (rr hb128) (vu (k:=201) rfl rfl (Y0 (rr hb128)) (Lf (vp (k:=201) rfl rfl (Y0 (rr hb128)) hx148) f140_0) hx150)) hd146 ?_)
 intro cs146 w145 hb146 ha146 hs146 hS
 have hp152:=(ha146 (by omega)).trans hp134
 refine Yp hS hG137 fun hR154 => ?_
 refine wd (Qa ?_)
 refine Qi <|Qd (Qe (.pointer (some ⟨bx1,0,none⟩)) hT30_0) <|Qd (Qe (.int .i64 x4.n) hT30_5) <|Qd (Q6 rfl) <|Qd (Qp fa90_2 rfl) ?_
 obtain ⟨u155,hx156,hz⟩:=Qb hz
 obtain ⟨hx156a,hx156b⟩:=Qv hx156
 refine Qd (Zd Ju rfl rfl hx156a hx156b) ?_
 obtain ⟨x159,hx160,hz⟩:=Qb hz
 obtain ⟨a161,hx162,hz⟩:=Qb hz
 obtain ⟨d163,hd158,hz⟩:=Qb hz
 have hq165:=(Zm hx160)
 refine Qt (Q7 2 1 hS rfl hb146 rfl rfl (rb false:rep M140 _ _) rfl rfl (GCluster.u2 (rr hb146) (vu (k:=1) rfl rfl (Y6 (rr hb146)) (Lf (vp (k:=1) rfl rfl (Y6 (rr hb146)) hx160) (rb false:rep M140 _ _)) hx162)) hd158 ?_)
 intro cs158 w157 hb158 ha158 hs158 hS
 have hp164:=(ha158 (by omega)).trans hp152
 refine Qf (Q8 ?_)
 refine (Qa ?_)
 exact ⟨M140,(Zr.zc GReply),(Zr.zd:GReply),cs158,d163,ux1_6,xsx1_6,l3,hF27,hS,zb8,hb158,hkx1_6,hp164,hT30_4,hz⟩
 rintro T11 w9 ⟨M10,cs12,d13,cs14,d15,v16,xs17,l18,hx21,hS,hb12,hb14,hk19,hp20,hT11_4,hz⟩
 replace hE:=Qc hE hx21
 rw [clPower_j1] at hz
 refine Qh <|Qi ?_
 obtain ⟨d23,hd22,hz⟩:=Qb hz
 obtain ⟨cs22,hf22,ha22⟩ : ∃ cs,fillZ (([(0,1),(1,1),(2,1)]:List (Nat × Nat))[·]?) (Zr.zc GReply) []=some cs∧rep M10 cs d23:=⟨_,Z8,Z9 (x:=({ code:=Zr.zd,n:=Zr.zd,values:=Zr.zd }:GReply)) (Zr.zr:rep M10 (Zr.zc GReply) (Zr.zd:GReply)) hd22⟩
 refine Qd (Zx [] tb40 Vk hf22) ?_
 obtain ⟨d26,hd25,hz⟩:=Qb hz
 refine Qt (Q7 0 3 hS rfl hb12 hT11_4 rfl ha22 rfl rfl (Lf (rr hb12) ha22) hd25 ?_)
 intro cs25 w24 hb25 ha25 hs25 hS
 refine Qf (Qa ?_)
 cases hz
 exact Q4 (Jt (j:=0) rfl hT11_4 (by rw [Rep.len hb25];exact Ko) hS rfl ⟨_,M10,_,rfl,hE,(hS.sel (H':=[.box bx1 cs14 90,.stk v16 9 1 xs17]) [2,3] (by decide) rfl),cs25,cs14,v16,xs17,rfl,rfl,hb25,hb14,hk19,hp20⟩)
def clDo_j1 (fu:Nat) (d25:GReply) (d27:GCluster) (l30:List ByteArray):Option (GReply × GCluster × (List ByteArray)) :=
 (clNoD fu 3).bind fun r37 =>
 (some r37).bind fun d40 =>
 some (d40,d27,l30)
def clDo_j3 (fu:Nat) (l3:List ByteArray) (x4:GAct) (d19:GCluster) (d68:GReply):Option (GReply × GCluster × (List ByteArray)) :=
 (inR x4.n 32).bind fun _ =>
 (idxV d19.cases x4.n).bind fun x75 =>
 (againD fu x75 x4.n).bind fun r80 =>
 (clSendD fu d19 l3 r80).bind fun r84 =>
 (clToldD fu r84.1 x4.n).bind fun r87 =>
 (some r87).bind fun d90 =>
 some (d90,r84.1,r84.2)
def clDo_j4 (fu:Nat) (l3:List ByteArray) (x4:GAct) (d19:GCluster) (c95:Bool):Option (GReply × GCluster × (List ByteArray)) :=
 (bif c95 then
 (clNoD fu 4).bind fun r101 =>
 (some r101).bind fun d104 =>
 some (d104,d19,l3)
 else
 clDo_j3 fu l3 x4 d19 (Zr.zd:GReply))
def clDo_j5 (fu:Nat) (l3:List ByteArray) (x4:GAct) (d19:GCluster) (c113:Bool):Option (GReply × GCluster × (List ByteArray)) :=
 (bif c113 then
 (clPowerD fu d19 l3 x4).bind fun r119 =>
 (some r119.1).bind fun d122 =>
 some (d122,r119.2.1,r119.2.2)
 else
 clDo_j1 fu (Zr.zd:GReply) d19 l3)
def clDo_j2 (fu:Nat) (l3:List ByteArray) (x4:GAct) (d19:GCluster) (c53:Bool):Option (GReply × GCluster × (List ByteArray)) :=
 (bif c53 then
 (clFrameD fu d19 l3 x4).bind fun r59 =>
 (some r59.1).bind fun d62 =>
 some (d62,r59.2.1,r59.2.2)
 else
 (bif x4.kind==5 then
 (bif decide (x4.n<0) then
 clDo_j4 fu l3 x4 d19 true
 else
 clDo_j4 fu l3 x4 d19 (decide (x4.n≥d19.begun)))
 else
 (bif x4.kind==6 then
 clDo_j5 fu l3 x4 d19 (x4.kind==6)
 else
 (bif x4.kind==7 then
 clDo_j5 fu l3 x4 d19 (x4.kind==7)
 else
 clDo_j5 fu l3 x4 d19 (x4.kind==8)))))
def clDoD (fu:Nat) (x1:GCluster) (l3:List ByteArray) (x4:GAct):Option (GReply × GCluster × (List ByteArray)) :=
 (bif decide (x1.acts≥400) then
 (clNoD fu 5).bind fun r13 =>
 (some r13).bind fun d16 =>
 some (d16,x1,l3)
 else
 (some ({ x1 with acts:=IntKind.wrap .i64 (x1.acts+1) }:GCluster)).bind fun d19 =>
 (bif x4.kind==1 then
 (clBeginD fu d19 l3 x4.ops).bind fun r46 =>
 (some r46.1).bind fun d49 =>
 some (d49,r46.2.1,r46.2.2)
 else
 (bif x4.kind==2 then
 clDo_j2 fu l3 x4 d19 (x4.kind==2)
 else
 (bif x4.kind==3 then
 clDo_j2 fu l3 x4 d19 (x4.kind==3)
 else
 clDo_j2 fu l3 x4 d19 (x4.kind==4)))))
set_option maxRecDepth 100000 in
set_option maxHeartbeats 4000000 in
theorem clDo_ok {M:Mm} {w:World} {bx1:Nat} {cx1:List Value} {ux1_6:Value} {xsx1_6:List Value} {cx4:List Value} {x1:GCluster} {l3:List ByteArray} {x4:GAct} {fu:Nat} {r:GReply × GCluster × (List ByteArray)} (hS:St w (lentX [.box bx1 cx1 90,.stk ux1_6 9 1 xsx1_6]) M [.box bx1 cx1 90,.stk ux1_6 9 1 xsx1_6] w) (hcx1:rep M cx1 x1) (hkx1_6:skr M ux1_6 xsx1_6 l3) (hpx1_6:sl cx1 1993 1=[ux1_6]) (hcx4:rep M cx4 x4) (hz:clDoD fu x1 l3 x4=some r) :
    Calls Try.prog 19 #[.pointer (some ⟨bx1,0,none⟩),.agg cx4.toArray] w (GivesL M w [.box bx1 cx1 90,.stk ux1_6 9 1 xsx1_6] (fun M' u L' => ∃ c0 k0 u1 x1,u = .agg c0.toArray∧L'=[.box bx1 k0 90,.stk u1 9 1 x1]∧rep M' c0 r.1∧rep M' k0 r.2.1∧skr M' u1 x1 r.2.2∧sl k0 1993 1=[u1])):=by
 refine Zh Try.func19 rfl 82 rfl rfl (by kernel_rfl) fun T hT => ?_
 have hT_0:T 0 = .pointer (some ⟨bx1,0,none⟩):=hT 0
 have hT_1:T 1 = .agg cx4.toArray:=hT 1
 clear hT
 have hE:=Qg w.heap.size (lentX [.box bx1 cx1 90,.stk ux1_6 9 1 xsx1_6]) M
 rw [clDoD] at hz
 refine Qh <|Qi ?_
 refine Qt (Yq (v := .agg cx4.toArray) (cs:=cx4) hT_1 rfl hS ?_)
 intro b6 w5 hb6 hS
 refine Qt (Zi tz40 hS ?_)
 intro b8 w7 hb8 hS
 have zb8:rep M (Zr.zc GReply) (Zr.zd:GReply):=Zr.zr
 refine Qf (Qa ?_)
 refine Qh <|Qi <|Qd (Qk (evT (fun _=>undef) (.func 46)) rfl) ?_
 refine Qf (Qa ?_)
 refine Qh <|Qy <|Qh <|Qi <|Qd (Qe (.pointer (some ⟨bx1,0,none⟩)) hT_0) <|Qd (Js rfl rfl Y5) <|Qd (Qk (.bool false) rfl) ?_
 refine Qf (Qa ?_)
 refine W_cond_f rfl <|Qh <|Qi <|Qd (Qe (.pointer (some ⟨bx1,0,none⟩)) hT_0) <|Qd (Q6 rfl) <|Qd (Qp fa90_7 rfl) <|Qd (Ql (.int .i64 x1.acts) Yc rfl (hS.bvB 2 rfl) (GCluster.p7 (rr hcx1))) <|Qd (Ve rfl rfl) <|Qd (Qk (.bool (decide (x1.acts≥400))) rfl) ?_
 refine Qf (Qa ?_)
 refine Qs rfl (fun hc9 => ?_) (fun hc9 => ?_)
 replace hz:=Qm hz hc9
 refine Qh <|Qi <|Qd (Qe (evT (fun _=>undef) (.func 46)) rfl) ?_
 obtain ⟨r13,hr12,hz⟩:=Qb hz
 refine Qt (OW_fn rfl (Y2 (vs:=[.int .i64 5]) (rv:=(fun M' u => ∃ cs,u = .agg cs.toArray∧rep M' cs r13)) cb46 (Zp rfl) hS (clNo_ok hS.agree hr12)) ?_)
 intro u12 M12 w11 hx12 hu12 hS
 obtain ⟨c12,hq12,f12⟩:=hu12
 subst hq12
 replace hcx1:=Rep.mono hx12.1 hcx1
 replace hkx1_6:=Zo hx12.1 hkx1_6
 replace zb8:=Rep.mono hx12.1 zb8
 replace hE:=Qc hE hx12
 obtain ⟨d16,hd15,hz⟩:=Qb hz
 refine Qt (Q7 0 3 hS rfl zb8 rfl rfl f12 rfl rfl (Lf (rr zb8) f12) hd15 ?_)
 intro cs15 w14 hb15 ha15 hs15 hS
 refine Qf (Qa ?_)
 cases hz
 exact Q4 (Zf (Qq (Jt (j:=0) rfl rfl (by rw [Rep.len hb15];exact Ko) hS rfl ⟨_,M12,_,rfl,hE,(hS.sel (H':=[.box bx1 cx1 90,.stk ux1_6 9 1 xsx1_6]) [2,3] (by decide) rfl),cs15,cx1,ux1_6,xsx1_6,rfl,rfl,hb15,hcx1,hkx1_6,hpx1_6⟩)))
 replace hz:=Qn hz hc9
 refine Qu (Q8 ?_)
 refine (Qa ?_)
 refine Qh <|Qi <|Qd (Qe (.pointer (some ⟨bx1,0,none⟩)) hT_0) <|Qd (Q6 rfl) <|Qd (Qp fa90_7 rfl) <|Qd (Ql (.int .i64 x1.acts) Yc rfl (hS.bvB 2 rfl) (GCluster.p7 (rr hcx1))) <|Qd (Z2 rfl rfl) <|Qd (Q6 rfl) <|Qd (Qp fa90_7 rfl) ?_
 obtain ⟨d19,hd18,hz⟩:=Qb hz
 refine Qt (Q7 2 1 hS rfl hcx1 rfl rfl (ri (IntKind.wrap .i64 (x1.acts+1)):rep M _ _) rfl rfl (GCluster.u7 (rr hcx1) (Lf (GCluster.p7 (rr hcx1)) (ri (IntKind.wrap .i64 (x1.acts+1)):rep M _ _))) hd18 ?_)
 intro cs18 w17 hb18 ha18 hs18 hS
 have hp20:=(ha18 (by omega)).trans hpx1_6
 refine Qf (Qa ?_)
 refine Qz (fun T' w' => ∃ M22 cs24 d25 cs26 d27 v28 xs29 l30,Mm.ext w.heap.size (lentX [.box bx1 cx1 90,.stk ux1_6 9 1 xsx1_6]) M M22∧St w (lentX [.box bx1 cx1 90,.stk ux1_6 9 1 xsx1_6]) M22 [.box b8 cs24 40,.box b6 cx4 43,.box bx1 cs26 90,.stk v28 9 1 xs29] w'∧rep M22 cs24 d25∧rep M22 cs26 d27∧skr M22 v28 xs29 l30∧sl cs26 (0+1993) 1=[v28]∧T' 4 = .pointer (some ⟨b8,0,none⟩)∧T' 5=evT (fun _=>undef) (.func 46)∧clDo_j1 fu d25 d27 l30=some r) ?_ ?_
 have hF41:=Qg w.heap.size (lentX [.box bx1 cx1 90,.stk ux1_6 9 1 xsx1_6]) M
 refine Qh <|Qi <|Qd (Qp fa43_0 rfl) <|Qd (Ql (.int .i64 x4.kind) Yc rfl (hS.bvB 1 rfl) (Ji (rr hcx4))) ?_
 refine Qf (Qa ?_)
 refine Qy <|Qh <|Qi <|Qd (Yf rfl rfl) <|Qd (Qk (.bool (x4.kind==1)) rfl) ?_
 refine Qf (Qa ?_)
 refine Qs rfl (fun hc42 => ?_) (fun hc42 => ?_)
 replace hz:=Qm hz hc42
 refine Qh <|Qi <|Qd (Qe (.pointer (some ⟨bx1,0,none⟩)) hT_0) <|Qd (Qp fa43_3 rfl) ?_
 obtain ⟨v43,ev43,hv43⟩:=(GAct.p3 (rr hcx4))
 refine Qd (Ql v43 Vf rfl (hS.bvB 1 rfl) ev43) ?_
 obtain ⟨r46,hr45,hz⟩:=Qb hz
 refine Qt (Zt (vs:=[.pointer (some ⟨bx1,0,none⟩),v43]) (L:=[.box bx1 cs18 90,.stk ux1_6 9 1 xsx1_6]) (R:=[.box b8 (Zr.zc GReply) 40,.box b6 cx4 43]) (rv:=(fun M' u L' => ∃ c0 k0 u1 x1,u = .agg c0.toArray∧L'=[.box bx1 k0 90,.stk u1 9 1 x1]∧rep M' c0 r46.1∧rep M' k0 r46.2.1∧skr M' u1 x1 r46.2.2∧sl k0 1993 1=[u1])) cb47 (Z6 rfl rfl) hS (hS.sel [2,3,0,1] (by decide) rfl) (fun hS=>clBegin_ok hS hb18 hkx1_6 hp20 hv43 hr45) ?_)
 rintro u45 M45 w44 L45 hx45 ⟨c0_45,k0_45,u1_45,x1_45,rfl,hL45,f45_0,f45_1,f45_2,f45_3⟩ hS
 replace hS:=hS _ hL45
 replace zb8:=Rep.mono hx45.1 zb8
 replace hE:=Qc hE hx45
 obtain ⟨d49,hd48,hz⟩:=Qb hz
 refine Qt (Q7 2 3 hS rfl zb8 rfl rfl f45_0 rfl rfl (Lf (rr zb8) f45_0) hd48 ?_)
 intro cs48 w47 hb48 ha48 hs48 hS
 refine Qf (Qa ?_)
 cases hz
 exact Q4 (Zf (Qq (Jt (j:=2) rfl rfl (by rw [Rep.len hb48];exact Ko) hS rfl ⟨_,M45,_,rfl,hE,(hS.sel (H':=[.box bx1 k0_45 90,.stk u1_45 9 1 x1_45]) [0,1] (by decide) rfl),cs48,k0_45,u1_45,x1_45,rfl,rfl,hb48,f45_1,f45_2,f45_3⟩)))
 replace hz:=Qn hz hc42
 refine Qz (fun T' w' => ∃ M51 c53,Mm.ext w.heap.size (lentX [.box bx1 cx1 90,.stk ux1_6 9 1 xsx1_6]) M M51∧St w (lentX [.box bx1 cx1 90,.stk ux1_6 9 1 xsx1_6]) M51 [.box b8 (Zr.zc GReply) 40,.box b6 cx4 43,.box bx1 cs18 90,.stk ux1_6 9 1 xsx1_6] w'∧T' 0 = .pointer (some ⟨bx1,0,none⟩)∧T' 3 = .pointer (some ⟨b6,0,none⟩)∧T' 4 = .pointer (some ⟨b8,0,none⟩)∧T' 5=evT (fun _=>undef) (.func 46)∧T' 27 = .int .i64 x4.kind∧T' 34 = .bool c53∧clDo_j2 fu l3 x4 d19 c53=some r) ?_ ?_
 have hF126:=Qg w.heap.size (lentX [.box bx1 cx1 90,.stk ux1_6 9 1 xsx1_6]) M
 refine Qh <|Qi <|Qd (Yf rfl rfl) <|Qd (Qk (.bool (x4.kind==2)) rfl) ?_
 refine Qf (Qa ?_)
 refine Qs rfl (fun hc127 => ?_) (fun hc127 => ?_)
 replace hz:=Qm hz hc127
 refine Qu (Qa ?_)
 exact ⟨M,(x4.kind==2),hF126,hS,hT_0,rfl,rfl,rfl,rfl,rfl,hz⟩
 replace hz:=Qn hz hc127
 refine Qh <|Qi <|Qd (Yf rfl rfl) <|Qd (Qk (.bool (x4.kind==3)) rfl) ?_
 refine Qf (Qa ?_)
 refine Qs rfl (fun hc128 => ?_) (fun hc128 => ?_)
 replace hz:=Qm hz hc128
 refine Qu (Qa ?_)
 exact ⟨M,(x4.kind==3),hF126,hS,hT_0,rfl,rfl,rfl,rfl,rfl,hz⟩
 replace hz:=Qn hz hc128
 refine Qi <|Qd (Yf rfl rfl) <|Qd (Qk (.bool (x4.kind==4)) rfl) ?_
 refine Qf (Qa ?_)
 exact ⟨M,(x4.kind==4),hF126,hS,hT_0,rfl,rfl,rfl,rfl,rfl,hz⟩
 rintro T52 w50 ⟨M51,c53,hx54,hS,hT52_0,hT52_3,hT52_4,hT52_5,hT52_27,hT52_34,hz⟩
 replace hkx1_6:=Zo hx54.1 hkx1_6
 replace hcx4:=Rep.mono hx54.1 hcx4
 replace zb8:=Rep.mono hx54.1 zb8
 replace hb18:=Rep.mono hx54.1 hb18
 replace hE:=Qc hE hx54
 replace hF41:=Qc hF41 hx54
 rw [clDo_j2] at hz
 refine Qs hT52_34 (fun hc55 => ?_) (fun hc55 => ?_)
 replace hz:=Qm hz hc55
 refine Qh <|Qi <|Qd (Qe (.pointer (some ⟨bx1,0,none⟩)) hT52_0) ?_
 have ha56:=(rr hcx4)
 refine Qd (Ze ta43 hT52_3 (hS.bvB 1 rfl) (Rep.len ha56)) ?_
 obtain ⟨r59,hr58,hz⟩:=Qb hz
 refine Qt (Zt (vs:=[.pointer (some ⟨bx1,0,none⟩),.agg (sl cx4 (0) 4).toArray]) (L:=[.box bx1 cs18 90,.stk ux1_6 9 1 xsx1_6]) (R:=[.box b8 (Zr.zc GReply) 40,.box b6 cx4 43]) (rv:=(fun M' u L' => ∃ c0 k0 u1 x1,u = .agg c0.toArray∧L'=[.box bx1 k0 90,.stk u1 9 1 x1]∧rep M' c0 r59.1∧rep M' k0 r59.2.1∧skr M' u1 x1 r59.2.2∧sl k0 1993 1=[u1])) cb48 (Z6 rfl rfl) hS (hS.sel [2,3,0,1] (by decide) rfl) (fun hS=>clFrame_ok hS hb18 hkx1_6 hp20 ha56 hr58) ?_)
 rintro u58 M58 w57 L58 hx58 ⟨c0_58,k0_58,u1_58,x1_58,rfl,hL58,f58_0,f58_1,f58_2,f58_3⟩ hS
 replace hS:=hS _ hL58
 replace zb8:=Rep.mono hx58.1 zb8
 replace hE:=Qc hE hx58
 obtain ⟨d62,hd61,hz⟩:=Qb hz
 refine Qt (Q7 2 3 hS rfl zb8 hT52_4 rfl f58_0 rfl rfl (Lf (rr zb8) f58_0) hd61 ?_)
 intro cs61 w60 hb61 ha61 hs61 hS
 refine Qf (Qa ?_)
 cases hz
 exact Q4 (Zf (Qq (Jt (j:=2) rfl hT52_4 (by rw [Rep.len hb61];exact Ko) hS rfl ⟨_,M58,_,rfl,hE,(hS.sel (H':=[.box bx1 k0_58 90,.stk u1_58 9 1 x1_58]) [0,1] (by decide) rfl),cs61,k0_58,u1_58,x1_58,rfl,rfl,hb61,f58_1,f58_2,f58_3⟩)))
 replace hz:=Qn hz hc55
 refine Qh <|Qi <|Qd (Yf hT52_27 rfl) <|Qd (Qk (.bool (x4.kind==5)) rfl) ?_
 refine Qf (Qa ?_)
 refine Qs rfl (fun hc63 => ?_) (fun hc63 => ?_)
 replace hz:=Qm hz hc63
 refine Qz (fun T' w' => ∃ M65 cs67 d68,Mm.ext w.heap.size (lentX [.box bx1 cx1 90,.stk ux1_6 9 1 xsx1_6]) M51 M65∧St w (lentX [.box bx1 cx1 90,.stk ux1_6 9 1 xsx1_6]) M65 [.box b8 cs67 40,.box b6 cx4 43,.box bx1 cs18 90,.stk ux1_6 9 1 xsx1_6] w'∧rep M65 cs67 d68∧T' 0 = .pointer (some ⟨bx1,0,none⟩)∧T' 3 = .pointer (some ⟨b6,0,none⟩)∧T' 4 = .pointer (some ⟨b8,0,none⟩)∧clDo_j3 fu l3 x4 d19 d68=some r) ?_ ?_
 have hF91:=Qg w.heap.size (lentX [.box bx1 cx1 90,.stk ux1_6 9 1 xsx1_6]) M51
 refine Qz (fun T' w' => ∃ M93 c95,Mm.ext w.heap.size (lentX [.box bx1 cx1 90,.stk ux1_6 9 1 xsx1_6]) M51 M93∧St w (lentX [.box bx1 cx1 90,.stk ux1_6 9 1 xsx1_6]) M93 [.box b8 (Zr.zc GReply) 40,.box b6 cx4 43,.box bx1 cs18 90,.stk ux1_6 9 1 xsx1_6] w'∧T' 0 = .pointer (some ⟨bx1,0,none⟩)∧T' 3 = .pointer (some ⟨b6,0,none⟩)∧T' 4 = .pointer (some ⟨b8,0,none⟩)∧T' 5=evT (fun _=>undef) (.func 46)∧T' 54 = .bool c95∧clDo_j4 fu l3 x4 d19 c95=some r) ?_ ?_
 have hF105:=Qg w.heap.size (lentX [.box bx1 cx1 90,.stk ux1_6 9 1 xsx1_6]) M51
 refine Yw [.box b6 cx4 43,.box bx1 cs18 90] [] Z7 hS fun w106 hS hG107 hR108=>wy 0 rfl (Qp Kq hT52_3) (fun _=>hR108) <|Y8 1 rfl (Ql (.int .i64 x4.n) Yc rfl (Ys 0 rfl) (V7 (rr hcx4))) hR108 <|wy 2 rfl (Zq rfl rfl) (fun _=>hR108) <|wy 3 rfl (Qe (.bool (decide (x4.n<0))) rfl) (fun _=>hR108) ?_
 rcases ic hz with ⟨hc109,hz⟩ | ⟨hc109,hz⟩<;>rw [hc109]
 refine Yl 4 (j:=3) rfl rfl rfl rfl (fun _=>hR108) <|Yl 5 (j:=3) rfl rfl rfl rfl (fun _=>hR108) <|Yl 6 (j:=3) rfl rfl rfl rfl (fun _=>hR108) <|Yl 7 (j:=3) rfl rfl rfl rfl (fun _=>hR108) <|Yl 8 (j:=3) rfl rfl rfl rfl (fun _=>hR108) <|Yl 9 (j:=3) rfl rfl rfl rfl (fun _=>hR108) <|Yl 10 (j:=3) rfl rfl rfl rfl (fun _=>hR108) <|wy 11 rfl (Z1 (.bool true) rfl rfl) (fun _=>hR108) ?_
 refine wd (Qa ?_)
 exact ⟨M51,true,hF105,hS,hT52_0,hT52_3,hT52_4,hT52_5,rfl,hz⟩
 refine Kb 4 rfl rfl rfl (Qp Kq hT52_3) (fun _=>hR108) <|K7 5 rfl rfl rfl (Ql (.int .i64 x4.n) Yc rfl (Ys 0 rfl) (V7 (rr hcx4))) hR108 <|Kb 6 rfl rfl rfl (Qe (.pointer (some ⟨bx1,0,none⟩)) hT52_0) (fun _=>hR108) <|Kb 7 rfl rfl rfl (Q6 rfl) (fun _=>hR108) <|Kb 8 rfl rfl rfl (Qp fa90_5 rfl) (fun _=>hR108) <|K7 9 rfl rfl rfl (Ql (.int .i64 d19.begun) Yc rfl (Ys 1 rfl) (Vw (rr hb18))) hR108 <|Kb 10 rfl rfl rfl (Ve rfl rfl) (fun _=>hR108) <|wy 11 rfl (Zg (.bool (decide (x4.n≥d19.begun))) rfl rfl) (fun _=>hR108) ?_
 refine wd (Qa ?_)
 exact ⟨M51,(decide (x4.n≥d19.begun)),hF105,hS,hT52_0,hT52_3,hT52_4,hT52_5,rfl,hz⟩
 rintro T94 w92 ⟨M93,c95,hx96,hS,hT94_0,hT94_3,hT94_4,hT94_5,hT94_54,hz⟩
 replace hkx1_6:=Zo hx96.1 hkx1_6
 replace zb8:=Rep.mono hx96.1 zb8
 replace hb18:=Rep.mono hx96.1 hb18
 replace hE:=Qc hE hx96
 replace hF91:=Qc hF91 hx96
 rw [clDo_j4] at hz
 refine Qs hT94_54 (fun hc97 => ?_) (fun hc97 => ?_)
 replace hz:=Qm hz hc97
 refine Qh <|Qi <|Qd (Qe (evT (fun _=>undef) (.func 46)) hT94_5) ?_
 obtain ⟨r101,hr100,hz⟩:=Qb hz
 refine Qt (OW_fn rfl (Y2 (vs:=[.int .i64 4]) (rv:=(fun M' u => ∃ cs,u = .agg cs.toArray∧rep M' cs r101)) cb46 (Zp rfl) hS (clNo_ok hS.agree hr100)) ?_)
 intro u100 M100 w99 hx100 hu100 hS
 obtain ⟨c100,hq100,f100⟩:=hu100
 subst hq100
 replace hkx1_6:=Zo hx100.1 hkx1_6
 replace zb8:=Rep.mono hx100.1 zb8
 replace hb18:=Rep.mono hx100.1 hb18
 replace hE:=Qc hE hx100
 obtain ⟨d104,hd103,hz⟩:=Qb hz
 refine Qt (Q7 0 3 hS rfl zb8 hT94_4 rfl f100 rfl rfl (Lf (rr zb8) f100) hd103 ?_)
 intro cs103 w102 hb103 ha103 hs103 hS
 refine Qf (Qa ?_)
 cases hz
 exact Q4 (Qq (Zf (Qq (Jt (j:=0) rfl hT94_4 (by rw [Rep.len hb103];exact Ko) hS rfl ⟨_,M100,_,rfl,hE,(hS.sel (H':=[.box bx1 cs18 90,.stk ux1_6 9 1 xsx1_6]) [2,3] (by decide) rfl),cs103,cs18,ux1_6,xsx1_6,rfl,rfl,hb103,hb18,hkx1_6,hp20⟩))))
 replace hz:=Qn hz hc97
 refine Qu (Qa ?_)
 exact ⟨M93,(Zr.zc GReply),(Zr.zd:GReply),hF91,hS,zb8,hT94_0,hT94_3,hT94_4,hz⟩
 rintro T66 w64 ⟨M65,cs67,d68,hx69,hS,hb67,hT66_0,hT66_3,hT66_4,hz⟩
 replace hcx4:=Rep.mono hx69.1 hcx4
 replace hb18:=Rep.mono hx69.1 hb18
 rw [clDo_j3] at hz
 refine Qh <|Yw [.box b6 cx4 43,.box bx1 cs18 90] [11] Z7 hS fun w70 hS hG71 hR72=>wy 0 rfl (Qe (.pointer (some ⟨bx1,0,none⟩)) hT66_0) (fun _=>hR72) <|wy 1 rfl (Qe (.pointer (some ⟨bx1,0,none⟩)) hT66_0) (fun _=>hR72) <|wy 2 rfl (Qp Kq hT66_3) (fun _=>hR72) <|wlC (inL [6,7,10,11]) 3 rfl (Ql (.int .i64 x4.n) Yc rfl (Ys 0 rfl) (V7 (rr hcx4))) hR72 <|wy 4 rfl (Q6 rfl) (fun _=>hR72) <|wy 5 rfl (Qp fa90_4 rfl) (fun _=>hR72) ?_
 obtain ⟨u73,hx74,hz⟩:=Qb hz
 obtain ⟨hx74a,hx74b⟩:=Qv hx74
 refine wy 6 rfl (Zd ia88 rfl rfl hx74a hx74b) (fun _=>hR72) ?_
 obtain ⟨x75,hx76,hz⟩:=Qb hz
 have ha77:=(vp (k:=24) rfl rfl (Vi (rr hb18)) hx76)
 refine wlC (inL [10,11]) 7 rfl (Ze Vg rfl (Ys 1 rfl) (Rep.len ha77)) hR72 <|wy 8 rfl (Qp Kq hT66_3) (fun _=>hR72) <|wlC (inL [10,11]) 9 rfl (Ql (.int .i64 x4.n) Yc rfl (Ys 0 rfl) (V7 (rr hcx4))) hR72 ?_
 obtain ⟨r80,hr79,hz⟩:=Qb hz
 refine w1 10 rfl (Y2 (vs:=[.agg (sl cs18 (0+1224+Int.toNat x4.n*24) 24).toArray,.int .i64 x4.n]) (rv:=(fun M' u=>repL M' u r80)) cb50 (Z6 rfl rfl) hS (again_ok hS.agree ha77 hr79) ?_)
 intro u79 M79 w78 hx79 hu79 hS
 have f79:repL M79 u79 r80:=hu79
 replace hkx1_6:=Zo (hx69.1.trans hx79.1) hkx1_6
 replace hb18:=Rep.mono hx79.1 hb18
 replace hG71:=Qc hG71 hx79
 refine Yp hS hG71 fun hR81 => ?_
 obtain ⟨r84,hr83,hz⟩:=Qb hz
 refine w1 11 rfl (Zt (vs:=[.pointer (some ⟨bx1,0,none⟩),u79]) (L:=[.box bx1 cs18 90,.stk ux1_6 9 1 xsx1_6]) (R:=[.box b8 cs67 40,.box b6 cx4 43]) (rv:=(fun M' u L' => ∃ k0 u1 x1,u = .tuple #[]∧L'=[.box bx1 k0 90,.stk u1 9 1 x1]∧rep M' k0 r84.1∧skr M' u1 x1 r84.2∧sl k0 1993 1=[u1])) cb49 (Z6 rfl rfl) hS (hS.sel [2,3,0,1] (by decide) rfl) (fun hS=>clSend_ok hS hb18 hkx1_6 hp20 f79 hr83) ?_)
 rintro u83 M83 w82 L83 hx83 ⟨k0_83,u1_83,x1_83,rfl,hL83,f83_0,f83_1,f83_2⟩ hS
 replace hS:=hS _ hL83
 replace hcx4:=Rep.mono (hx79.1.trans hx83.1) hcx4
 refine ⟨nB,?_⟩
 refine wd (Qa ?_)
 refine Qh <|Qi <|Qd (Qe (.pointer (some ⟨bx1,0,none⟩)) hT66_0) <|Qd (Qp Kq hT66_3) <|Qd (Ql (.int .i64 x4.n) Yc rfl (hS.bvB 3 rfl) (V7 (rr hcx4))) ?_
 obtain ⟨r87,hr86,hz⟩:=Qb hz
 refine Qt (Zt (vs:=[.pointer (some ⟨bx1,0,none⟩),.int .i64 x4.n]) (L:=[.box bx1 k0_83 90]) (R:=[.stk u1_83 9 1 x1_83,.box b8 cs67 40,.box b6 cx4 43]) (rv:=(fun M' u L' => ∃ c0,u = .agg c0.toArray∧L'=[.box bx1 k0_83 90]∧rep M' c0 r87)) cb51 (Z6 rfl rfl) hS (hS.sel [0,1,2,3] (by decide) rfl) (fun hS=>clTold_ok hS f83_0 hr86) ?_)
 rintro u86 M86 w85 L86 hx86 ⟨c0_86,rfl,hL86,f86_0⟩ hS
 replace hS:=hS _ hL86
 replace hb67:=Rep.mono (hx79.1.trans (hx83.1.trans hx86.1)) hb67
 replace f83_0:=Rep.mono hx86.1 f83_0
 replace f83_1:=Zo hx86.1 f83_1
 replace hE:=Qc hE (hx69.trans (hx79.trans (hx83.trans hx86)))
 obtain ⟨d90,hd89,hz⟩:=Qb hz
 refine Qt (Q7 2 3 hS rfl hb67 hT66_4 rfl f86_0 rfl rfl (Lf (rr hb67) f86_0) hd89 ?_)
 intro cs89 w88 hb89 ha89 hs89 hS
 refine Qf (Qa ?_)
 cases hz
 exact Q4 (Zf (Qq (Jt (j:=2) rfl hT66_4 (by rw [Rep.len hb89];exact Ko) hS rfl ⟨_,M86,_,rfl,hE,(hS.sel (H':=[.box bx1 k0_83 90,.stk u1_83 9 1 x1_83]) [0,1] (by decide) rfl),cs89,k0_83,u1_83,x1_83,rfl,rfl,hb89,f83_0,f83_1,f83_2⟩)))
 replace hz:=Qn hz hc63
 refine Qz (fun T' w' => ∃ M111 c113,Mm.ext w.heap.size (lentX [.box bx1 cx1 90,.stk ux1_6 9 1 xsx1_6]) M51 M111∧St w (lentX [.box bx1 cx1 90,.stk ux1_6 9 1 xsx1_6]) M111 [.box b8 (Zr.zc GReply) 40,.box b6 cx4 43,.box bx1 cs18 90,.stk ux1_6 9 1 xsx1_6] w'∧T' 0 = .pointer (some ⟨bx1,0,none⟩)∧T' 3 = .pointer (some ⟨b6,0,none⟩)∧T' 4 = .pointer (some ⟨b8,0,none⟩)∧T' 5=evT (fun _=>undef) (.func 46)∧T' 73 = .bool c113∧clDo_j5 fu l3 x4 d19 c113=some r) ?_ ?_
 have hF123:=Qg w.heap.size (lentX [.box bx1 cx1 90,.stk ux1_6 9 1 xsx1_6]) M51
 refine Qh <|Qi <|Qd (Yf hT52_27 rfl) <|Qd (Qk (.bool (x4.kind==6)) rfl) ?_
 refine Qf (Qa ?_)
 refine Qs rfl (fun hc124 => ?_) (fun hc124 => ?_)
 replace hz:=Qm hz hc124
 refine Qu (Qa ?_)
 exact ⟨M51,(x4.kind==6),hF123,hS,hT52_0,hT52_3,hT52_4,hT52_5,rfl,hz⟩
 replace hz:=Qn hz hc124
 refine Qh <|Qi <|Qd (Yf hT52_27 rfl) <|Qd (Qk (.bool (x4.kind==7)) rfl) ?_
 refine Qf (Qa ?_)
 refine Qs rfl (fun hc125 => ?_) (fun hc125 => ?_)
 replace hz:=Qm hz hc125
 refine Qu (Qa ?_)
 exact ⟨M51,(x4.kind==7),hF123,hS,hT52_0,hT52_3,hT52_4,hT52_5,rfl,hz⟩
 replace hz:=Qn hz hc125
 refine Qi <|Qd (Yf hT52_27 rfl) <|Qd (Qk (.bool (x4.kind==8)) rfl) ?_
 refine Qf (Qa ?_)
 exact ⟨M51,(x4.kind==8),hF123,hS,hT52_0,hT52_3,hT52_4,hT52_5,rfl,hz⟩
 rintro T112 w110 ⟨M111,c113,hx114,hS,hT112_0,hT112_3,hT112_4,hT112_5,hT112_73,hz⟩
 replace hkx1_6:=Zo hx114.1 hkx1_6
 replace hcx4:=Rep.mono hx114.1 hcx4
 replace zb8:=Rep.mono hx114.1 zb8
 replace hb18:=Rep.mono hx114.1 hb18
 replace hE:=Qc hE hx114
 replace hF41:=Qc hF41 hx114
 rw [clDo_j5] at hz
 refine Qs hT112_73 (fun hc115 => ?_) (fun hc115 => ?_)
 replace hz:=Qm hz hc115
 refine Qh <|Qi <|Qd (Qe (.pointer (some ⟨bx1,0,none⟩)) hT112_0) ?_
 have ha116:=(rr hcx4)
 refine Qd (Ze ta43 hT112_3 (hS.bvB 1 rfl) (Rep.len ha116)) ?_
 obtain ⟨r119,hr118,hz⟩:=Qb hz
 refine Qt (Zt (vs:=[.pointer (some ⟨bx1,0,none⟩),.agg (sl cx4 (0) 4).toArray]) (L:=[.box bx1 cs18 90,.stk ux1_6 9 1 xsx1_6]) (R:=[.box b8 (Zr.zc GReply) 40,.box b6 cx4 43]) (rv:=(fun M' u L' => ∃ c0 k0 u1 x1,u = .agg c0.toArray∧L'=[.box bx1 k0 90,.stk u1 9 1 x1]∧rep M' c0 r119.1∧rep M' k0 r119.2.1∧skr M' u1 x1 r119.2.2∧sl k0 1993 1=[u1])) cb52 (Z6 rfl rfl) hS (hS.sel [2,3,0,1] (by decide) rfl) (fun hS=>clPower_ok hS hb18 hkx1_6 hp20 ha116 hr118) ?_)
 rintro u118 M118 w117 L118 hx118 ⟨c0_118,k0_118,u1_118,x1_118,rfl,hL118,f118_0,f118_1,f118_2,f118_3⟩ hS
 replace hS:=hS _ hL118
 replace zb8:=Rep.mono hx118.1 zb8
 replace hE:=Qc hE hx118
 obtain ⟨d122,hd121,hz⟩:=Qb hz
 refine Qt (Q7 2 3 hS rfl zb8 hT112_4 rfl f118_0 rfl rfl (Lf (rr zb8) f118_0) hd121 ?_)
 intro cs121 w120 hb121 ha121 hs121 hS
 refine Qf (Qa ?_)
 cases hz
 exact Q4 (Zf (Qq (Jt (j:=2) rfl hT112_4 (by rw [Rep.len hb121];exact Ko) hS rfl ⟨_,M118,_,rfl,hE,(hS.sel (H':=[.box bx1 k0_118 90,.stk u1_118 9 1 x1_118]) [0,1] (by decide) rfl),cs121,k0_118,u1_118,x1_118,rfl,rfl,hb121,f118_1,f118_2,f118_3⟩)))
 replace hz:=Qn hz hc115
 refine Qu (Q8 ?_)
 refine (Qa ?_)
 exact ⟨M111,(Zr.zc GReply),(Zr.zd:GReply),cs18,d19,ux1_6,xsx1_6,l3,hF41,hS,zb8,hb18,hkx1_6,hp20,hT112_4,hT112_5,hz⟩
 rintro T23 w21 ⟨M22,cs24,d25,cs26,d27,v28,xs29,l30,hx33,hS,hb24,hb26,hk31,hp32,hT23_4,hT23_5,hz⟩
 rw [clDo_j1] at hz
 refine Qh <|Qi <|Qd (Qe (evT (fun _=>undef) (.func 46)) hT23_5) ?_
 obtain ⟨r37,hr36,hz⟩:=Qb hz
 refine Qt (OW_fn rfl (Y2 (vs:=[.int .i64 3]) (rv:=(fun M' u => ∃ cs,u = .agg cs.toArray∧rep M' cs r37)) cb46 (Zp rfl) hS (clNo_ok hS.agree hr36)) ?_)
 intro u36 M36 w35 hx36 hu36 hS
 obtain ⟨c36,hq36,f36⟩:=hu36
 subst hq36
 replace hb24:=Rep.mono hx36.1 hb24
 replace hb26:=Rep.mono hx36.1 hb26
 replace hk31:=Zo hx36.1 hk31
 replace hE:=Qc hE (hx33.trans hx36)
 obtain ⟨d40,hd39,hz⟩:=Qb hz
 refine Qt (Q7 0 3 hS rfl hb24 hT23_4 rfl f36 rfl rfl (Lf (rr hb24) f36) hd39 ?_)
 intro cs39 w38 hb39 ha39 hs39 hS
 refine Qf (Qa ?_)
 cases hz
 exact Q4 (Jt (j:=0) rfl hT23_4 (by rw [Rep.len hb39];exact Ko) hS rfl ⟨_,M36,_,rfl,hE,(hS.sel (H':=[.box bx1 cs26 90,.stk v28 9 1 xs29]) [2,3] (by decide) rfl),cs39,cs26,v28,xs29,rfl,rfl,hb39,hb26,hk31,hp32⟩)
def clNewD (fu:Nat):Option (GCluster × (List ByteArray)) :=
 (some ({ nodes:=Zr.zd,logs:=Zr.zd,down:=Zr.zd,tear:=Zr.zd,cases:=Zr.zd,begun:=Zr.zd,net:=Zr.zd,acts:=Zr.zd }:GCluster)).bind fun d2 =>
 some (d2,([]:List ByteArray))
set_option maxRecDepth 100000 in
set_option maxHeartbeats 4000000 in
theorem clNew_ok {M:Mm} {w:World} {fu:Nat} {r:GCluster × (List ByteArray)} (hA:Agree M w)  (hz:clNewD fu=some r) :
    Calls Try.prog 41 #[] w (GivesL M w [] (fun M' u L' => ∃ bP0 kP0 uP6 xP6,u = .pointer (some ⟨bP0,0,none⟩)∧L'=[.box bP0 kP0 90,.stk uP6 9 1 xP6]∧rep M' kP0 r.1∧skr M' uP6 xP6 r.2∧sl kP0 1993 1=[uP6])):=by
 refine Zh Try.func41 rfl 3 rfl rfl (by kernel_rfl) fun T hT => ?_
 clear hT
 have hE:=Qg w.heap.size (lentX []) M
 have hS:St w (lentX []) M [] w:=Zs hA
 rw [clNewD] at hz
 refine Qh <|Qi <|Qd (Qk (.pointer none) rfl) ?_
 refine Qf (Qa ?_)
 refine Qh <|Qi ?_
 obtain ⟨d2,hd1,hz⟩:=Qb hz
 obtain ⟨cs1,hf1,ha1⟩ : ∃ cs,fillZ (([(0,1206),(1206,6),(1212,6),(1218,6),(1224,768),(1992,1),(1993,1),(1994,1)]:List (Nat × Nat))[·]?) (Zr.zc GCluster) []=some cs∧rep M cs d2:=⟨_,Z8,Z9 (x:=({ nodes:=Zr.zd,logs:=Zr.zd,down:=Zr.zd,tear:=Zr.zd,cases:=Zr.zd,begun:=Zr.zd,net:=Zr.zd,acts:=Zr.zd }:GCluster)) (Zr.zr:rep M (Zr.zc GCluster) (Zr.zd:GCluster)) hd1⟩
 have hp3:sl cs1 1993 1=[.slice none 0 0]:=(Yy hf1 (by rfl)).trans (by rfl)
 replace hS:=hS.nilStk 9 1
 have hk5:skr M (.slice none 0 0) [] ([]:List ByteArray):=skr_nil
 refine Qd (Zx [] tb90 Vk hf1) ?_
 refine Qt (Yq (v := .agg cs1.toArray) (cs:=cs1) rfl rfl hS ?_)
 intro b7 w6 hb7 hS
 refine Qd (Qk (.pointer (some ⟨b7,0,none⟩)) rfl) ?_
 refine Qf (Qa ?_)
 cases hz
 exact Q4 (Yi rfl rfl ⟨_,M,_,rfl,hE,(hS.sel (H':=[.box b7 cs1 90,.stk (.slice none 0 0) 9 1 []]) [0,1] (by decide) rfl),b7,cs1,(.slice none 0 0),[],rfl,rfl,ha1,hk5,hp3⟩)
end Go.Proofs.Yteilffoclpgijaa
namespace Go.Proofs.Yteilffoclpgijaa
open Go.RowKit
open Rep (rep)
set_option linter.unusedVariables false
def alive_j1 (d41:GCluster) (l44:List ByteArray) (c47:Bool):Option Bool :=
 some c47
def aliveD (fu:Nat):Option Bool :=
 (clNewD fu).bind fun r3 =>
 (some ({ kind:=2,key:=1,n:=4 }:GOp)).bind fun d6 =>
 (some ({ kind:=1,n:=Zr.zd,m:=Zr.zd,ops:=([d6]:List GOp) }:GAct)).bind fun d10 =>
 (clDoD fu r3.1 r3.2 d10).bind fun r13 =>
 (some r13.1).bind fun d18 =>
 (some ({ kind:=2,n:=1,m:=Zr.zd,ops:=Zr.zd }:GAct)).bind fun d20 =>
 (clDoD fu r13.2.1 r13.2.2 d20).bind fun r23 =>
 (some r23.1).bind fun d28 =>
 (clNodeD fu r23.2.1 4).bind fun r31 =>
 (some r31.1).bind fun d36 =>
 (bif d18.code==0 then
 (bif d28.code==0 then
 (clNetD fu r23.2.1 r23.2.2).bind fun r54 =>
 (bif (r54.1.length:Int)==3 then
 (idxV d36.entries 0).bind fun x57 =>
 alive_j1 r23.2.1 r54.2 (x57.state==1)
 else
 alive_j1 r23.2.1 r54.2 false)
 else
 alive_j1 r23.2.1 r23.2.2 false)
 else
 alive_j1 r23.2.1 r23.2.2 false)
set_option maxRecDepth 100000 in
set_option maxHeartbeats 4000000 in
theorem alive_ok {M:Mm} {w:World} {fu:Nat} {r:Bool} (hA:Agree M w)  (hz:aliveD fu=some r) :
    Calls Try.prog 33 #[] w (GivesV w (.bool r)):=by
 refine Zh Try.func33 rfl 43 rfl rfl (by kernel_rfl) fun T hT => ?_
 clear hT
 have hE:=Qg w.heap.size noX M
 have hS:St w noX M [] w:=Zs hA
 rw [aliveD] at hz
 refine Qh <|Qi <|Qd (Qk (.bool false) rfl) ?_
 refine Qf (Qa ?_)
 refine Qh <|Qi ?_
 obtain ⟨r3,hr2,hz⟩:=Qb hz
 refine Qt (Zt (vs:=[]) (L:=[]) (R:=[]) (rv:=(fun M' u L' => ∃ bP0 kP0 uP6 xP6,u = .pointer (some ⟨bP0,0,none⟩)∧L'=[.box bP0 kP0 90,.stk uP6 9 1 xP6]∧rep M' kP0 r3.1∧skr M' uP6 xP6 r3.2∧sl kP0 1993 1=[uP6])) cb41 args0 hS (hS.sel [] (by decide) rfl) (fun hS=>clNew_ok hS.agree hr2) ?_)
 rintro u2 M2 w1 L2 hx2 ⟨bP0_2,kP0_2,uP6_2,xP6_2,rfl,hL2,f2_0,f2_1,f2_2⟩ hS
 replace hS:=hS _ hL2
 refine Qd (Qk (.pointer (some ⟨bP0_2,0,none⟩)) rfl) ?_
 refine Qf (Qa ?_)
 refine Qh <|Qh <|Qi <|Qd (Qe (.pointer (some ⟨bP0_2,0,none⟩)) rfl) <|Qd (Js rfl rfl Y5) ?_
 refine Qf (Qa ?_)
 refine W_cond_f rfl ?_
 refine Qu (Qa ?_)
 refine Qh <|Qi <|Qd (Qe (.pointer (some ⟨bP0_2,0,none⟩)) rfl) ?_
 have k5_0:=GOp.w0 (Zr.zr:rep M2 (Zr.zc GOp) (Zr.zd:GOp)) (ri 2:rep M2 _ _)
 have k5_1:=GOp.w1 k5_0 (ri 1:rep M2 _ _)
 have k5_2:=GOp.w2 k5_1 (ri 4:rep M2 _ _)
 obtain ⟨d6,hd5,hz⟩:=Qb hz
 obtain ⟨cs5,hf5,ha5⟩ : ∃ cs,fillZ (([(0,1),(1,1),(2,1)]:List (Nat × Nat))[·]?) (Zr.zc GOp) [(0,.int .i64 2),(1,.int .i64 1),(2,.int .i64 4)]=some cs∧rep M2 cs d6:=⟨_,(Zb (Zr.zr:rep M2 (Zr.zc GOp) (Zr.zd:GOp)) rfl rfl (Rep.len (ri 2:rep M2 _ _)) (by decide) (Zb k5_0 rfl rfl (Rep.len (ri 1:rep M2 _ _)) (by decide) (Zb k5_1 rfl rfl (Rep.len (ri 4:rep M2 _ _)) (by decide) Z8))),Z9 (x:=({ kind:=2,key:=1,n:=4 }:GOp)) k5_2 hd5⟩
 refine Qd (Zx [(0,.int .i64 2),(1,.int .i64 1),(2,.int .i64 4)] tb65 (Yv rfl (Yv rfl (Yv rfl Vk))) hf5) ?_
 refine Qt (Z3 (α := GOp) (l:=([d6]:List GOp)) [.agg cs5.toArray] tl27 (Yv rfl Vk) rfl rfl (by decide) (by decide) (by decide) hS (K4 ha5 Jl) ?_)
 intro v8 M8 w7 hx8 hv8 hS
 replace f2_0:=Rep.mono hx8.1 f2_0
 replace f2_1:=Zo hx8.1 f2_1
 have k9_0:=GAct.w0 (Zr.zr:rep M8 (Zr.zc GAct) (Zr.zd:GAct)) (ri 1:rep M8 _ _)
 have k9_1:=GAct.w3 k9_0 (Q2 hv8)
 obtain ⟨d10,hd9,hz⟩:=Qb hz
 obtain ⟨cs9,hf9,ha9⟩ : ∃ cs,fillZ (([(0,1),(1,1),(2,1),(3,1)]:List (Nat × Nat))[·]?) (Zr.zc GAct) [(0,.int .i64 1),(3,v8)]=some cs∧rep M8 cs d10:=⟨_,(Zb (Zr.zr:rep M8 (Zr.zc GAct) (Zr.zd:GAct)) rfl rfl (Rep.len (ri 1:rep M8 _ _)) (by decide) (Zb k9_0 rfl (Za hv8) (Rep.len (Q2 hv8)) (by decide) Z8)),Z9 (x:=({ kind:=1,n:=Zr.zd,m:=Zr.zd,ops:=([d6]:List GOp) }:GAct)) k9_1 hd9⟩
 refine Qd (Zx [(0,.int .i64 1),(3,v8)] tb43 (Yv rfl (Yv rfl Vk)) hf9) ?_
 obtain ⟨r13,hr12,hz⟩:=Qb hz
 refine Qt (Zt (vs:=[.pointer (some ⟨bP0_2,0,none⟩),.agg cs9.toArray]) (L:=[.box bP0_2 kP0_2 90,.stk uP6_2 9 1 xP6_2]) (R:=[]) (rv:=(fun M' u L' => ∃ c0 k0 u1 x1,u = .agg c0.toArray∧L'=[.box bP0_2 k0 90,.stk u1 9 1 x1]∧rep M' c0 r13.1∧rep M' k0 r13.2.1∧skr M' u1 x1 r13.2.2∧sl k0 1993 1=[u1])) cb19 (Z6 rfl rfl) hS (hS.sel [0,1] (by decide) rfl) (fun hS=>clDo_ok hS f2_0 f2_1 f2_2 ha9 hr12) ?_)
 rintro u12 M12 w11 L12 hx12 ⟨c0_12,k0_12,u1_12,x1_12,rfl,hL12,f12_0,f12_1,f12_2,f12_3⟩ hS
 replace hS:=hS _ hL12
 refine Qt (Zi tz40 hS ?_)
 intro b15 w14 hb15 hS
 have zb15:rep M12 (Zr.zc GReply) (Zr.zd:GReply):=Zr.zr
 obtain ⟨d18,hd17,hz⟩:=Qb hz
 refine Qt (Q7 0 3 hS rfl zb15 rfl rfl f12_0 rfl rfl (Lf (rr zb15) f12_0) hd17 ?_)
 intro cs17 w16 hb17 ha17 hs17 hS
 refine Qf (Qa ?_)
 refine Qh <|Qi <|Qd (Qe (.pointer (some ⟨bP0_2,0,none⟩)) rfl) ?_
 have k19_0:=GAct.w0 (Zr.zr:rep M12 (Zr.zc GAct) (Zr.zd:GAct)) (ri 2:rep M12 _ _)
 have k19_1:=GAct.w1 k19_0 (ri 1:rep M12 _ _)
 obtain ⟨d20,hd19,hz⟩:=Qb hz
 obtain ⟨cs19,hf19,ha19⟩ : ∃ cs,fillZ (([(0,1),(1,1),(2,1),(3,1)]:List (Nat × Nat))[·]?) (Zr.zc GAct) [(0,.int .i64 2),(1,.int .i64 1)]=some cs∧rep M12 cs d20:=⟨_,(Zb (Zr.zr:rep M12 (Zr.zc GAct) (Zr.zd:GAct)) rfl rfl (Rep.len (ri 2:rep M12 _ _)) (by decide) (Zb k19_0 rfl rfl (Rep.len (ri 1:rep M12 _ _)) (by decide) Z8)),Z9 (x:=({ kind:=2,n:=1,m:=Zr.zd,ops:=Zr.zd }:GAct)) k19_1 hd19⟩
 refine Qd (Zx [(0,.int .i64 2),(1,.int .i64 1)] tb43 (Yv rfl (Yv rfl Vk)) hf19) ?_
 obtain ⟨r23,hr22,hz⟩:=Qb hz
 refine Qt (Zt (vs:=[.pointer (some ⟨bP0_2,0,none⟩),.agg cs19.toArray]) (L:=[.box bP0_2 k0_12 90,.stk u1_12 9 1 x1_12]) (R:=[.box b15 cs17 40]) (rv:=(fun M' u L' => ∃ c0 k0 u1 x1,u = .agg c0.toArray∧L'=[.box bP0_2 k0 90,.stk u1 9 1 x1]∧rep M' c0 r23.1∧rep M' k0 r23.2.1∧skr M' u1 x1 r23.2.2∧sl k0 1993 1=[u1])) cb19 (Z6 rfl rfl) hS (hS.sel [1,2,0] (by decide) rfl) (fun hS=>clDo_ok hS f12_1 f12_2 f12_3 ha19 hr22) ?_)
 rintro u22 M22 w21 L22 hx22 ⟨c0_22,k0_22,u1_22,x1_22,rfl,hL22,f22_0,f22_1,f22_2,f22_3⟩ hS
 replace hS:=hS _ hL22
 refine Qt (Zi tz40 hS ?_)
 intro b25 w24 hb25 hS
 have zb25:rep M22 (Zr.zc GReply) (Zr.zd:GReply):=Zr.zr
 obtain ⟨d28,hd27,hz⟩:=Qb hz
 refine Qt (Q7 0 3 hS rfl zb25 rfl rfl f22_0 rfl rfl (Lf (rr zb25) f22_0) hd27 ?_)
 intro cs27 w26 hb27 ha27 hs27 hS
 refine Qf (Qa ?_)
 refine Qh <|Qi <|Qd (Qe (.pointer (some ⟨bP0_2,0,none⟩)) rfl) ?_
 obtain ⟨r31,hr30,hz⟩:=Qb hz
 refine Qt (Zt (vs:=[.pointer (some ⟨bP0_2,0,none⟩),.int .i64 4]) (L:=[.box bP0_2 k0_22 90]) (R:=[.box b25 cs27 40,.stk u1_22 9 1 x1_22,.box b15 cs17 40]) (rv:=(fun M' u L' => ∃ c0,u = .tuple #[.agg c0.toArray,.bool r31.2]∧L'=[.box bP0_2 k0_22 90]∧rep M' c0 r31.1)) cb17 (Z6 rfl rfl) hS (hS.sel [1,0,2,3] (by decide) rfl) (fun hS=>clNode_ok hS f22_1 hr30) ?_)
 rintro u30 M30 w29 L30 hx30 ⟨c0_30,rfl,hL30,f30_0⟩ hS
 replace hS:=hS _ hL30
 replace hb17:=Rep.mono (hx22.1.trans hx30.1) hb17
 replace f22_1:=Rep.mono hx30.1 f22_1
 replace f22_2:=Zo hx30.1 f22_2
 replace hb27:=Rep.mono hx30.1 hb27
 refine Qd (Qe (.tuple #[.agg c0_30.toArray,.bool r31.2]) rfl) <|Qd (Zc (v := .agg c0_30.toArray) rfl rfl) <|Qd (Zc (v := .bool r31.2) rfl rfl) ?_
 refine Qt (Zi tz34 hS ?_)
 intro b33 w32 hb33 hS
 have zb33:rep M30 (Zr.zc GNode) (Zr.zd:GNode):=Zr.zr
 obtain ⟨d36,hd35,hz⟩:=Qb hz
 refine Qt (Q7 0 201 hS rfl zb33 rfl rfl f30_0 rfl rfl (Lf (rr zb33) f30_0) hd35 ?_)
 intro cs35 w34 hb35 ha35 hs35 hS
 refine Qd (Qk (.bool r31.2) rfl) ?_
 refine Qf (Qa ?_)
 refine Qz (fun T' w' => ∃ M38 cs40 d41 v42 xs43 l44 c47,Mm.ext w.heap.size noX M30 M38∧St w noX M38 [.box b33 cs35 34,.box bP0_2 cs40 90,.box b25 cs27 40,.stk v42 9 1 xs43,.box b15 cs17 40] w'∧rep M38 cs40 d41∧skr M38 v42 xs43 l44∧sl cs40 (0+1993) 1=[v42]∧T' 0 = .bool c47∧alive_j1 d41 l44 c47=some r) ?_ ?_
 have hF49:=Qg w.heap.size noX M30
 refine Qi <|Qd (Qp fa40_0 rfl) <|Qd (Ql (.int .i64 d18.code) ts38 rfl (hS.bvB 4 rfl) (GReply.p0 (rr hb17))) <|Qd (Yf rfl rfl) <|Qd (Qe (.bool (d18.code==0)) rfl) ?_
 rcases ic hz with ⟨hc50,hz⟩ | ⟨hc50,hz⟩<;>rw [hc50]
 refine Qj rfl rfl (Qp fa40_0 rfl) <|Qj rfl rfl (Ql (.int .i64 d28.code) ts38 rfl (hS.bvB 2 rfl) (GReply.p0 (rr hb27))) <|Qj rfl rfl (Yf rfl rfl) <|Q1 2 rfl ?_
 rcases ic hz with ⟨hc51,hz⟩ | ⟨hc51,hz⟩<;>rw [hc51]
 refine Qj rfl rfl (Qe (.pointer (some ⟨bP0_2,0,none⟩)) rfl) ?_
 obtain ⟨r54,hr53,hz⟩:=Qb hz
 refine Vy rfl rfl (Zt (vs:=[.pointer (some ⟨bP0_2,0,none⟩)]) (L:=[.box bP0_2 k0_22 90,.stk u1_22 9 1 x1_22]) (R:=[.box b33 cs35 34,.box b25 cs27 40,.box b15 cs17 40]) (rv:=(fun M' u L' => ∃ v0 u1 x1,u=v0∧L'=[.box bP0_2 k0_22 90,.stk u1 9 1 x1]∧repL M' v0 r54.1∧skr M' u1 x1 r54.2∧sl k0_22 1993 1=[u1])) cb32 (Zp rfl) hS (hS.sel [1,3,0,2,4] (by decide) rfl) (fun hS=>clNet_ok hS f22_1 f22_2 f22_3 hr53) ?_)
 rintro u53 M53 w52 L53 hx53 ⟨v0_53,u1_53,x1_53,rfl,hL53,f53_0,f53_1,f53_2⟩ hS
 replace hS:=hS _ hL53
 replace f22_1:=Rep.mono hx53.1 f22_1
 replace hb35:=Rep.mono hx53.1 hb35
 replace hF49:=Qc hF49 hx53
 obtain ⟨a55,c55,hv55,_⟩:=Q3 f53_0
 refine Qj rfl rfl (Zj Y4 (Vs hv55 rfl)) <|Qj rfl rfl (Yf rfl rfl) <|Q1 2 rfl ?_
 rcases ic hz with ⟨hc56,hz⟩ | ⟨hc56,hz⟩<;>rw [hc56]
 refine Qj rfl rfl (Qp V2 rfl) <|Qj rfl rfl (Zd ia31 rfl rfl (by decide) (by decide)) <|Qj rfl rfl (Qp Y3 rfl) ?_
 obtain ⟨x57,hx58,hz⟩:=Qb hz
 refine Qj rfl rfl (Ql (.int .i64 x57.state) Yc rfl (hS.bvB 2 rfl) (Ye (vp (k:=6) rfl rfl (Q5 (rr hb35)) hx58))) <|Qj rfl rfl (Yf rfl rfl) <|Q1 2 rfl ?_
 refine Qf (Qa ?_)
 exact ⟨M53,k0_22,r23.2.1,u1_53,x1_53,r54.2,(x57.state==1),hF49,(hS.sel (H':=[.box b33 cs35 34,.box bP0_2 k0_22 90,.box b25 cs27 40,.stk u1_53 9 1 x1_53,.box b15 cs17 40]) [2,0,3,1,4] (by decide) rfl),f22_1,f53_1,f53_2,rfl,hz⟩
 refine Q1 7 rfl ?_
 refine Qf (Qa ?_)
 exact ⟨M53,k0_22,r23.2.1,u1_53,x1_53,r54.2,false,hF49,(hS.sel (H':=[.box b33 cs35 34,.box bP0_2 k0_22 90,.box b25 cs27 40,.stk u1_53 9 1 x1_53,.box b15 cs17 40]) [2,0,3,1,4] (by decide) rfl),f22_1,f53_1,f53_2,rfl,hz⟩
 refine Q1 13 rfl ?_
 refine Qf (Qa ?_)
 exact ⟨M30,k0_22,r23.2.1,u1_22,x1_22,r23.2.2,false,hF49,hS,f22_1,f22_2,f22_3,rfl,hz⟩
 refine Q1 18 rfl ?_
 refine Qf (Qa ?_)
 exact ⟨M30,k0_22,r23.2.1,u1_22,x1_22,r23.2.2,false,hF49,hS,f22_1,f22_2,f22_3,rfl,hz⟩
 rintro T39 w37 ⟨M38,cs40,d41,v42,xs43,l44,c47,hx48,hS,hb40,hk45,hp46,hT39_0,hz⟩
 rw [alive_j1] at hz
 cases hz
 exact Q4 (Yi rfl hT39_0 ⟨rfl,(Qo (Qo (Qo (Qo (Qo hS))))).kept⟩)
def topSameNumbers_l1 (x1:List Int) (x2:List Int):Nat→Int→Option Bool
 | 0,_=>none
 | n+1,y10 =>
 (bif decide (y10<(x1.length:Int)) then
 (idx x1 y10).bind fun x17 =>
 (idx x2 y10).bind fun x19 =>
 (bif x17 != x19 then
 some false
 else
 (topSameNumbers_l1 x1 x2 n) (IntKind.wrap .i64 (y10+1)))
 else
 some true)
def topSameNumbersD (fu:Nat) (x1:List Int) (x2:List Int):Option Bool :=
 (bif (x1.length:Int) != (x2.length:Int) then
 some false
 else
 topSameNumbers_l1 x1 x2 fu 0)
set_option maxRecDepth 100000 in
set_option maxHeartbeats 4000000 in
theorem topSameNumbers_ok {M:Mm} {w:World} {vx1:Value} {vx2:Value} {x1:List Int} {x2:List Int} {fu:Nat} {r:Bool} (hA:Agree M w) (hvx1:repL M vx1 x1) (hvx2:repL M vx2 x2) (hz:topSameNumbersD fu x1 x2=some r) :
    Calls Try.prog 29 #[vx1,vx2] w (GivesV w (.bool r)):=by
 refine Zh Try.func29 rfl 26 rfl rfl (by kernel_rfl) fun T hT => ?_
 have hT_0:T 0=vx1:=hT 0
 have hT_1:T 1=vx2:=hT 1
 clear hT
 have hE:=Qg w.heap.size noX M
 have hS:St w noX M [] w:=Zs hA
 rw [topSameNumbersD] at hz
 refine Qh <|Qi <|Qd (Qk (.bool false) rfl) ?_
 refine Qf (Qa ?_)
 refine Qh <|Qh <|Qi <|Qd (Qe (vx1) hT_0) ?_
 obtain ⟨a3,c3,hv3,_⟩:=Q3 hvx1
 refine Qd (Zj Qr (Vs hv3 rfl)) <|Qd (Qe (vx2) hT_1) ?_
 obtain ⟨a4,c4,hv4,_⟩:=Q3 hvx2
 refine Qd (Zj Qr (Vs hv4 rfl)) <|Qd (Yk rfl rfl) ?_
 refine Qf (Qa ?_)
 refine Qs rfl (fun hc5 => ?_) (fun hc5 => ?_)
 replace hz:=Qm hz hc5
 refine Qh <|Qi <|Qd (Qk (.bool false) rfl) ?_
 refine Qf (Qa ?_)
 cases hz
 exact Q4 (Qq (Yi rfl rfl ⟨rfl,hS.kept⟩))
 replace hz:=Qn hz hc5
 refine Qu (Qa ?_)
 refine Qh <|Qh <|Qi <|Qd (Qe (vx1) hT_0) ?_
 obtain ⟨a6,c6,hv6,_⟩:=Q3 hvx1
 refine Qd (Zj Qr (Vs hv6 rfl)) <|Qd (Qe (.int .i64 0) rfl) ?_
 refine Qf (Qa ?_)
 refine Qy ?_
 refine Z0 (fun k12 T' w' => ∃ M8 y10,Mm.ext w.heap.size noX M M8∧St w noX M8 [] w'∧T' 0=vx1∧T' 1=vx2∧T' 12 = .int .i64 (x1.length:Int)∧T' 13 = .int .i64 y10∧topSameNumbers_l1 x1 x2 k12 y10=some r) fu ?_ ?_ ?_
 exact ⟨M,(0:Int),(Qg _ _ _),hS,hT_0,hT_1,rfl,rfl,hz⟩
 rintro T' w' ⟨_,_,_,_,_,_,_,_,hz⟩
 rw [topSameNumbers_l1] at hz
 cases hz
 intro k12
 rintro T9 w7 ⟨M8,y10,hx14,hS,hT9_0,hT9_1,hT9_12,hT9_13,hz⟩
 replace hvx1:=Qw hx14.1 hvx1
 replace hvx2:=Qw hx14.1 hvx2
 have hF13:=hx14
 rw [topSameNumbers_l1] at hz
 obtain ⟨rec11,hrec11⟩ : ∃ f,f=topSameNumbers_l1 x1 x2 k12:=⟨_,rfl⟩
 rw [← hrec11] at hz
 refine Qh <|Qi <|Qd (Zq hT9_13 hT9_12) ?_
 refine Qf (Qa ?_)
 refine Qh ?_
 refine Qs rfl (fun hc15 => ?_) (fun hc15 => ?_)
 replace hz:=Qm hz hc15
 refine Qu (Qa ?_)
 refine Qh <|Qy <|Qh <|Qi <|Qd (Qe (.int .i64 y10) hT9_13) <|Qd (Qk (.int .i64 y10) rfl) ?_
 refine Qf (Qa ?_)
 refine Qh <|Jr Z7 (by kernel_rfl) hS <|Yh (Qe (vx1) hT9_0) <|Yh (Qe (.int .i64 y10) rfl) ?_
 obtain ⟨x17,hx16,hz⟩:=Qb hz
 obtain ⟨b16,o16,c16,p16,hv16,hi16,hj16,hM16,hr16⟩:=Yb hvx1 hx16
 replace hr16:rep _ (sl p16 (o16+Int.toNat y10*1) 1) x17:=hr16
 refine Yh (Yn V1 rfl hv16 rfl hi16 hj16) <|Yh (Ql (.int .i64 x17) Yc rfl (bvMS hM16) hr16) <|Yh (Qe (vx2) hT9_1) <|Yh (Qe (.int .i64 y10) rfl) ?_
 obtain ⟨x19,hx18,hz⟩:=Qb hz
 obtain ⟨b18,o18,c18,p18,hv18,hi18,hj18,hM18,hr18⟩:=Yb hvx2 hx18
 replace hr18:rep _ (sl p18 (o18+Int.toNat y10*1) 1) x19:=hr18
 refine Yh (Yn V1 rfl hv18 rfl hi18 hj18) <|Yh (Ql (.int .i64 x19) Yc rfl (bvMS hM18) hr18) <|Yh (Yk rfl rfl) <|WQ_nil ?_
 intro w20 hS
 refine (Qa ?_)
 refine Qs rfl (fun hc21 => ?_) (fun hc21 => ?_)
 replace hz:=Qm hz hc21
 refine Qh <|Qi <|Qd (Qk (.bool false) rfl) ?_
 refine Qf (Qa ?_)
 cases hz
 exact Q4 (Zf (Qq (Qq (Zf (Qq (Yi rfl rfl ⟨rfl,hS.kept⟩))))))
 replace hz:=Qn hz hc21
 refine Qu (Q8 ?_)
 refine (Qa ?_)
 refine Qi <|Qd (Z2 hT9_13 rfl) <|Qd (Qe (.int .i64 (IntKind.wrap .i64 (y10+1))) rfl) ?_
 refine Qf (Qa ?_)
 exact ⟨M8,(IntKind.wrap .i64 (y10+1)),hF13,hS,hT9_0,hT9_1,hT9_12,rfl,(by rw [← hrec11];exact hz)⟩
 replace hz:=Qn hz hc15
 refine Zu <|Q0 <|Q0 <|Zv ?_
 refine (Qa ?_)
 refine Qh <|Qi <|Qd (Qk (.bool true) rfl) ?_
 refine Qf (Qa ?_)
 cases hz
 exact Q4 (Yi rfl rfl ⟨rfl,hS.kept⟩)
def topSameNode_j1 (y10:Int) (rec11:Int→Option Bool):Option Bool :=
 rec11 (IntKind.wrap .i64 (y10+1))
def topSameNode_l2 (y10:Int) (rec11:Int→Option Bool) (d25:GEntry) (d27:GEntry):Nat→Int→Option Bool
 | 0,_=>none
 | n+1,y38 =>
 (bif decide (y38<(d25.ops.length:Int)) then
 (idx d25.ops y38).bind fun x46 =>
 (idx d27.ops y38).bind fun x50 =>
 (bif !decide (x46=x50) then
 some false
 else
 (topSameNode_l2 y10 rec11 d25 d27 n) (IntKind.wrap .i64 (y38+1)))
 else
 topSameNode_j1 y10 rec11)
def topSameNode_j3 (fu:Nat) (y10:Int) (rec11:Int→Option Bool) (d25:GEntry) (d27:GEntry):Option Bool :=
 topSameNode_l2 y10 rec11 d25 d27 fu 0
def topSameNode_j4 (fu:Nat) (y10:Int) (rec11:Int→Option Bool) (d25:GEntry) (d27:GEntry) (c58:Bool):Option Bool :=
 (bif c58 then
 some false
 else
 topSameNode_j3 fu y10 rec11 d25 d27)
def topSameNode_j2 (fu:Nat) (y10:Int) (rec11:Int→Option Bool) (d25:GEntry) (d27:GEntry):Option Bool :=
 (bif d25.state != d27.state then
 topSameNode_j4 fu y10 rec11 d25 d27 true
 else
 (bif (d25.ops.length:Int) != (d27.ops.length:Int) then
 topSameNode_j4 fu y10 rec11 d25 d27 true
 else
 (topSameNumbersD fu d25.first d27.first).bind fun r72 =>
 (bif !r72 then
 topSameNode_j4 fu y10 rec11 d25 d27 true
 else
 (topSameNumbersD fu d25.deps d27.deps).bind fun r78 =>
 (bif !r78 then
 topSameNode_j4 fu y10 rec11 d25 d27 true
 else
 (topSameNumbersD fu d25.at_ d27.at_).bind fun r84 =>
 (bif !r84 then
 topSameNode_j4 fu y10 rec11 d25 d27 true
 else
 (topSameNumbersD fu d25.values d27.values).bind fun r90 =>
 topSameNode_j4 fu y10 rec11 d25 d27 (!r90))))))
def topSameNode_j5 (c126:Bool):Option Bool :=
 some c126
def topSameNode_l1 (fu:Nat) (x1:GNode) (x2:GNode):Nat→Int→Option Bool
 | 0,_=>none
 | n+1,y10 =>
 (bif decide (y10<32) then
 (inR y10 32).bind fun _ =>
 (idxV x1.entries y10).bind fun x97 =>
 (inR y10 32).bind fun _ =>
 (idxV x2.entries y10).bind fun x102 =>
 (some x97).bind fun d111 =>
 (some x102).bind fun d114 =>
 topSameNode_j2 fu y10 (topSameNode_l1 fu x1 x2 n) d111 d114
 else
 (topSameNumbersD fu x1.order x2.order).bind fun r133 =>
 (bif r133 then
 topSameNode_j5 (decide (x1.values=x2.values))
 else
 topSameNode_j5 false))
def topSameNodeD (fu:Nat) (x1:GNode) (x2:GNode):Option Bool :=
 topSameNode_l1 fu x1 x2 fu 0
set_option maxRecDepth 100000 in
set_option maxHeartbeats 4000000 in
theorem topSameNode_ok {M:Mm} {w:World} {cx1:List Value} {cx2:List Value} {x1:GNode} {x2:GNode} {fu:Nat} {r:Bool} (hA:Agree M w) (hcx1:rep M cx1 x1) (hcx2:rep M cx2 x2) (hz:topSameNodeD fu x1 x2=some r) :
    Calls Try.prog 18 #[.agg cx1.toArray,.agg cx2.toArray] w (GivesV w (.bool r)):=by
 refine Zh Try.func18 rfl 97 rfl rfl (by kernel_rfl) fun T hT => ?_
 have hT_0:T 0 = .agg cx1.toArray:=hT 0
 have hT_1:T 1 = .agg cx2.toArray:=hT 1
 clear hT
 have hE:=Qg w.heap.size noX M
 have hS:St w noX M [] w:=Zs hA
 rw [topSameNodeD] at hz
 refine Qh <|Qi ?_
 refine Qt (Yq (v := .agg cx1.toArray) (cs:=cx1) hT_0 rfl hS ?_)
 intro b4 w3 hb4 hS
 refine Qt (Yq (v := .agg cx2.toArray) (cs:=cx2) hT_1 rfl hS ?_)
 intro b6 w5 hb6 hS
 refine Qd (Qk (.bool false) rfl) ?_
 refine Qf (Qa ?_)
 refine Qh <|Qh <|Qi <|Qd (Qe (.int .i64 0) rfl) ?_
 refine Qf (Qa ?_)
 refine Qy ?_
 refine Z0 (fun k12 T' w' => ∃ M8 y10,Mm.ext w.heap.size noX M M8∧St w noX M8 [.box b6 cx2 34,.box b4 cx1 34] w'∧T' 2 = .pointer (some ⟨b4,0,none⟩)∧T' 3 = .pointer (some ⟨b6,0,none⟩)∧T' 9 = .int .i64 y10∧topSameNode_l1 fu x1 x2 k12 y10=some r) fu ?_ ?_ ?_
 exact ⟨M,(0:Int),(Qg _ _ _),hS,rfl,rfl,rfl,hz⟩
 rintro T' w' ⟨_,_,_,_,_,_,_,hz⟩
 rw [topSameNode_l1] at hz
 cases hz
 intro k12
 rintro T9 w7 ⟨M8,y10,hx14,hS,hT9_2,hT9_3,hT9_9,hz⟩
 replace hcx1:=Rep.mono hx14.1 hcx1
 replace hcx2:=Rep.mono hx14.1 hcx2
 have hF13:=hx14
 rw [topSameNode_l1] at hz
 obtain ⟨rec11,hrec11⟩ : ∃ f,f=topSameNode_l1 fu x1 x2 k12:=⟨_,rfl⟩
 rw [← hrec11] at hz
 refine Qh <|Qi <|Qd (Zq hT9_9 rfl) ?_
 refine Qf (Qa ?_)
 refine Qh ?_
 refine Qs rfl (fun hc15 => ?_) (fun hc15 => ?_)
 replace hz:=Qm hz hc15
 refine Qu (Qa ?_)
 refine Qz (fun T' w' => ∃ M17,Mm.ext w.heap.size noX M8 M17∧St w noX M17 [.box b6 cx2 34,.box b4 cx1 34] w'∧T' 2 = .pointer (some ⟨b4,0,none⟩)∧T' 3 = .pointer (some ⟨b6,0,none⟩)∧T' 9 = .int .i64 y10∧topSameNode_j1 y10 rec11=some r) ?_ ?_
 have hF20:=Qg w.heap.size noX M8
 refine Qy <|Qh <|Qi <|Qd (Qe (.int .i64 y10) hT9_9) <|Qd (Qk (.int .i64 y10) rfl) ?_
 refine Qf (Qa ?_)
 refine Qz (fun T' w' => ∃ M22 b24 cs24 d25 b26 cs26 d27,Mm.ext w.heap.size noX M8 M22∧St w noX M22 [.box b26 cs26 30,.box b24 cs24 30,.box b6 cx2 34,.box b4 cx1 34] w'∧rep M22 cs24 d25∧w.heap.size≤b24∧rep M22 cs26 d27∧w.heap.size≤b26∧T' 6 = .pointer (some ⟨b24,0,none⟩)∧T' 7 = .pointer (some ⟨b26,0,none⟩)∧T' 2 = .pointer (some ⟨b4,0,none⟩)∧T' 3 = .pointer (some ⟨b6,0,none⟩)∧T' 9 = .int .i64 y10∧topSameNode_j2 fu y10 rec11 d25 d27=some r) ?_ ?_
 have hF91:=Qg w.heap.size noX M8
 refine Yw [.box b6 cx2 34,.box b4 cx1 34] [] Z7 hS fun w92 hS hG93 hR94=>wy 0 rfl (Qe (.int .i64 y10) rfl) (fun _=>hR94) <|wy 1 rfl (Qp V2 hT9_2) (fun _=>hR94) ?_
 obtain ⟨u95,hx96,hz⟩:=Qb hz
 obtain ⟨hx96a,hx96b⟩:=Qv hx96
 refine wy 2 rfl (Zd ia31 rfl rfl hx96a hx96b) (fun _=>hR94) ?_
 obtain ⟨x97,hx98,hz⟩:=Qb hz
 have ha99:=(vp (k:=6) rfl rfl (Q5 (rr hcx1)) hx98)
 refine Y8 3 rfl (Ze ta30 rfl (Ys 1 rfl) (Rep.len ha99)) hR94 <|wy 4 rfl (Qe (.int .i64 y10) rfl) (fun _=>hR94) <|wy 5 rfl (Qp V2 hT9_3) (fun _=>hR94) ?_
 obtain ⟨u100,hx101,hz⟩:=Qb hz
 obtain ⟨hx101a,hx101b⟩:=Qv hx101
 refine wy 6 rfl (Zd ia31 rfl rfl hx101a hx101b) (fun _=>hR94) ?_
 obtain ⟨x102,hx103,hz⟩:=Qb hz
 have ha104:=(vp (k:=6) rfl rfl (Q5 (rr hcx2)) hx103)
 refine Y8 7 rfl (Ze ta30 rfl (Ys 0 rfl) (Rep.len ha104)) hR94 ?_
 obtain ⟨d111,hd110,hz⟩:=Qb hz
 obtain ⟨d114,hd113,hz⟩:=Qb hz
 refine WB_two (i:=8) (j:=9) (by kernel_rfl) rfl rfl (Zi tz30 hS ?_) (Zi tz30 hS ?_)
 intro b106 w105 hb106 hS
 have zb106:rep M8 (Zr.zc GEntry) (Zr.zd:GEntry):=Zr.zr
 refine Yp hS hG93 fun hR115 => ?_
 refine w1 9 rfl (Zi tz30 hS ?_)
 intro b108 w107 hb108 hS
 have zb108:rep M8 (Zr.zc GEntry) (Zr.zd:GEntry):=Zr.zr
 refine Yp hS hG93 fun hR116 => ?_
 refine w1 10 rfl (Q7 1 6 hS rfl zb106 rfl rfl ha99 rfl rfl (Lf (rr zb106) ha99) hd110 ?_)
 intro cs110 w109 hb110 ha110 hs110 hS
 refine Yp hS hG93 fun hR117 => ?_
 refine w1 11 rfl (Q7 0 6 hS rfl zb108 rfl rfl ha104 rfl rfl (Lf (rr zb108) ha104) hd113 ?_)
 intro cs113 w112 hb113 ha113 hs113 hS
 refine Yp hS hG93 fun hR118 => ?_
 refine wd (Qa ?_)
 exact ⟨M8,b106,cs110,d111,b108,cs113,d114,hF91,hS,hb110,hb106,hb113,hb108,rfl,rfl,hT9_2,hT9_3,hT9_9,hz⟩
 intro b108 w107 hb108 hS
 have zb108:rep M8 (Zr.zc GEntry) (Zr.zd:GEntry):=Zr.zr
 refine Yp hS hG93 fun hR119 => ?_
 refine w1 8 rfl (Zi tz30 hS ?_)
 intro b106 w105 hb106 hS
 have zb106:rep M8 (Zr.zc GEntry) (Zr.zd:GEntry):=Zr.zr
 refine Yp hS hG93 fun hR120 => ?_
 refine w1 10 rfl (Q7 0 6 hS rfl zb106 rfl rfl ha99 rfl rfl (Lf (rr zb106) ha99) hd110 ?_)
 intro cs110 w109 hb110 ha110 hs110 hS
 refine Yp hS hG93 fun hR121 => ?_
 refine w1 11 rfl (Q7 1 6 hS rfl zb108 rfl rfl ha104 rfl rfl (Lf (rr zb108) ha104) hd113 ?_)
 intro cs113 w112 hb113 ha113 hs113 hS
 refine Yp hS hG93 fun hR122 => ?_
 refine wd (Qa ?_)
 exact ⟨M8,b106,cs110,d111,b108,cs113,d114,hF91,(hS.sel (H':=[.box b108 cs113 30,.box b106 cs110 30,.box b6 cx2 34,.box b4 cx1 34]) [1,0,2,3] (by decide) rfl),hb110,hb106,hb113,hb108,rfl,rfl,hT9_2,hT9_3,hT9_9,hz⟩
 rintro T23 w21 ⟨M22,b24,cs24,d25,b26,cs26,d27,hx28,hS,hb24,hs24,hb26,hs26,hT23_6,hT23_7,hT23_2,hT23_3,hT23_9,hz⟩
 replace hF20:=Qc hF20 hx28
 rw [topSameNode_j2] at hz
 refine Qz (fun T' w' => ∃ M30,Mm.ext w.heap.size noX M22 M30∧St w noX M30 [.box b26 cs26 30,.box b24 cs24 30,.box b6 cx2 34,.box b4 cx1 34] w'∧T' 2 = .pointer (some ⟨b4,0,none⟩)∧T' 3 = .pointer (some ⟨b6,0,none⟩)∧T' 6 = .pointer (some ⟨b24,0,none⟩)∧T' 7 = .pointer (some ⟨b26,0,none⟩)∧T' 9 = .int .i64 y10∧topSameNode_j3 fu y10 rec11 d25 d27=some r) ?_ ?_
 have hF54:=Qg w.heap.size noX M22
 refine Qz (fun T' w' => ∃ M56 c58,Mm.ext w.heap.size noX M22 M56∧St w noX M56 [.box b26 cs26 30,.box b24 cs24 30,.box b6 cx2 34,.box b4 cx1 34] w'∧T' 2 = .pointer (some ⟨b4,0,none⟩)∧T' 3 = .pointer (some ⟨b6,0,none⟩)∧T' 6 = .pointer (some ⟨b24,0,none⟩)∧T' 7 = .pointer (some ⟨b26,0,none⟩)∧T' 9 = .int .i64 y10∧T' 65 = .bool c58∧topSameNode_j4 fu y10 rec11 d25 d27 c58=some r) ?_ ?_
 have hF61:=Qg w.heap.size noX M22
 refine Qi <|Qd (Qp Y3 hT23_6) <|Qd (Ql (.int .i64 d25.state) Yc rfl (hS.bvB 1 rfl) (Ye (rr hb24))) <|Qd (Qp Y3 hT23_7) <|Qd (Ql (.int .i64 d27.state) Yc rfl (hS.bvB 0 rfl) (Ye (rr hb26))) <|Qd (Yk rfl rfl) <|Qd (Qe (.bool (d25.state != d27.state)) rfl) ?_
 rcases ic hz with ⟨hc62,hz⟩ | ⟨hc62,hz⟩<;>rw [hc62]
 refine Q1 40 rfl ?_
 refine Qf (Qa ?_)
 exact ⟨M22,true,hF61,hS,hT23_2,hT23_3,hT23_6,hT23_7,hT23_9,rfl,hz⟩
 refine Qj rfl rfl (Qp V3 hT23_6) ?_
 obtain ⟨v63,ev63,hv63⟩:=(Yt (rr hb24))
 refine Qj rfl rfl (Ql v63 Vf rfl (hS.bvB 1 rfl) ev63) ?_
 obtain ⟨a64,c64,hv64,_⟩:=Q3 hv63
 refine Qj rfl rfl (Zj Zw (Vs hv64 rfl)) <|Qj rfl rfl (Qp V3 hT23_7) ?_
 obtain ⟨v65,ev65,hv65⟩:=(Yt (rr hb26))
 refine Qj rfl rfl (Ql v65 Vf rfl (hS.bvB 0 rfl) ev65) ?_
 obtain ⟨a66,c66,hv66,_⟩:=Q3 hv65
 refine Qj rfl rfl (Zj Zw (Vs hv66 rfl)) <|Qj rfl rfl (Yk rfl rfl) <|Q1 2 rfl ?_
 rcases ic hz with ⟨hc67,hz⟩ | ⟨hc67,hz⟩<;>rw [hc67]
 refine Q1 31 rfl ?_
 refine Qf (Qa ?_)
 exact ⟨M22,true,hF61,hS,hT23_2,hT23_3,hT23_6,hT23_7,hT23_9,rfl,hz⟩
 refine Qj rfl rfl (Qp K9 hT23_6) ?_
 obtain ⟨v68,ev68,hv68⟩:=(Vv (rr hb24))
 refine Qj rfl rfl (Ql v68 Zy rfl (hS.bvB 1 rfl) ev68) <|Qj rfl rfl (Qp K9 hT23_7) ?_
 obtain ⟨v69,ev69,hv69⟩:=(Vv (rr hb26))
 refine Qj rfl rfl (Ql v69 Zy rfl (hS.bvB 0 rfl) ev69) ?_
 obtain ⟨r72,hr71,hz⟩:=Qb hz
 refine Vy rfl rfl (Zz (vs:=[v68,v69]) (v := .bool r72) cb29 (Z6 rfl rfl) hS (topSameNumbers_ok hS.agree hv68 hv69 hr71) ?_)
 intro w70 hS
 refine Qj rfl rfl (Ya rfl) <|Q1 2 rfl ?_
 rcases ic hz with ⟨hc73,hz⟩ | ⟨hc73,hz⟩<;>rw [hc73]
 refine Q1 23 rfl ?_
 refine Qf (Qa ?_)
 exact ⟨M22,true,hF61,hS,hT23_2,hT23_3,hT23_6,hT23_7,hT23_9,rfl,hz⟩
 refine Qj rfl rfl (Qp Ky hT23_6) ?_
 obtain ⟨v74,ev74,hv74⟩:=(Vp (rr hb24))
 refine Qj rfl rfl (Ql v74 Zy rfl (hS.bvB 1 rfl) ev74) <|Qj rfl rfl (Qp Ky hT23_7) ?_
 obtain ⟨v75,ev75,hv75⟩:=(Vp (rr hb26))
 refine Qj rfl rfl (Ql v75 Zy rfl (hS.bvB 0 rfl) ev75) ?_
 obtain ⟨r78,hr77,hz⟩:=Qb hz
 refine Vy rfl rfl (Zz (vs:=[v74,v75]) (v := .bool r78) cb29 (Z6 rfl rfl) hS (topSameNumbers_ok hS.agree hv74 hv75 hr77) ?_)
 intro w76 hS
 refine Qj rfl rfl (Ya rfl) <|Q1 2 rfl ?_
 rcases ic hz with ⟨hc79,hz⟩ | ⟨hc79,hz⟩<;>rw [hc79]
 refine Q1 15 rfl ?_
 refine Qf (Qa ?_)
 exact ⟨M22,true,hF61,hS,hT23_2,hT23_3,hT23_6,hT23_7,hT23_9,rfl,hz⟩
 refine Qj rfl rfl (Qp Vd hT23_6) ?_
 obtain ⟨v80,ev80,hv80⟩:=(Yg (rr hb24))
 refine Qj rfl rfl (Ql v80 Zy rfl (hS.bvB 1 rfl) ev80) <|Qj rfl rfl (Qp Vd hT23_7) ?_
 obtain ⟨v81,ev81,hv81⟩:=(Yg (rr hb26))
 refine Qj rfl rfl (Ql v81 Zy rfl (hS.bvB 0 rfl) ev81) ?_
 obtain ⟨r84,hr83,hz⟩:=Qb hz
 refine Vy rfl rfl (Zz (vs:=[v80,v81]) (v := .bool r84) cb29 (Z6 rfl rfl) hS (topSameNumbers_ok hS.agree hv80 hv81 hr83) ?_)
 intro w82 hS
 refine Qj rfl rfl (Ya rfl) <|Q1 2 rfl ?_
 rcases ic hz with ⟨hc85,hz⟩ | ⟨hc85,hz⟩<;>rw [hc85]
 refine Q1 7 rfl ?_
 refine Qf (Qa ?_)
 exact ⟨M22,true,hF61,hS,hT23_2,hT23_3,hT23_6,hT23_7,hT23_9,rfl,hz⟩
 refine Qj rfl rfl (Qp Vz hT23_6) ?_
 obtain ⟨v86,ev86,hv86⟩:=(Yo (rr hb24))
 refine Qj rfl rfl (Ql v86 Zy rfl (hS.bvB 1 rfl) ev86) <|Qj rfl rfl (Qp Vz hT23_7) ?_
 obtain ⟨v87,ev87,hv87⟩:=(Yo (rr hb26))
 refine Qj rfl rfl (Ql v87 Zy rfl (hS.bvB 0 rfl) ev87) ?_
 obtain ⟨r90,hr89,hz⟩:=Qb hz
 refine Vy rfl rfl (Zz (vs:=[v86,v87]) (v := .bool r90) cb29 (Z6 rfl rfl) hS (topSameNumbers_ok hS.agree hv86 hv87 hr89) ?_)
 intro w88 hS
 refine Qj rfl rfl (Ya rfl) <|Qd (Zg (.bool (!r90)) rfl rfl) ?_
 refine Qf (Qa ?_)
 exact ⟨M22,(!r90),hF61,hS,hT23_2,hT23_3,hT23_6,hT23_7,hT23_9,rfl,hz⟩
 rintro T57 w55 ⟨M56,c58,hx59,hS,hT57_2,hT57_3,hT57_6,hT57_7,hT57_9,hT57_65,hz⟩
 replace hF54:=Qc hF54 hx59
 rw [topSameNode_j4] at hz
 refine Qs hT57_65 (fun hc60 => ?_) (fun hc60 => ?_)
 replace hz:=Qm hz hc60
 refine Qh <|Qi <|Qd (Qk (.bool false) rfl) ?_
 refine Qf (Qa ?_)
 cases hz
 exact Q4 (Qq (Zf (Qq (Qq (Zf (Qq (Yi rfl rfl ⟨rfl,(Qo (Qo (Qo (Qo hS)))).kept⟩)))))))
 replace hz:=Qn hz hc60
 refine Qu (Qa ?_)
 exact ⟨M56,hF54,hS,hT57_2,hT57_3,hT57_6,hT57_7,hT57_9,hz⟩
 rintro T31 w29 ⟨M30,hx32,hS,hT31_2,hT31_3,hT31_6,hT31_7,hT31_9,hz⟩
 replace hb24:=Rep.mono hx32.1 hb24
 replace hb26:=Rep.mono hx32.1 hb26
 replace hF20:=Qc hF20 hx32
 rw [topSameNode_j3] at hz
 refine Qh <|Qi <|Qd (Qp V3 hT31_6) ?_
 obtain ⟨v33,ev33,hv33⟩:=(Yt (rr hb24))
 refine Qd (Ql v33 Vf rfl (hS.bvB 1 rfl) ev33) ?_
 obtain ⟨a34,c34,hv34,_⟩:=Q3 hv33
 refine Qd (Zj Zw (Vs hv34 rfl)) <|Qd (Qe (.int .i64 0) rfl) ?_
 refine Qf (Qa ?_)
 refine Qy ?_
 refine Z0 (fun k40 T' w' => ∃ M36 y38,Mm.ext w.heap.size noX M30 M36∧St w noX M36 [.box b26 cs26 30,.box b24 cs24 30,.box b6 cx2 34,.box b4 cx1 34] w'∧T' 2 = .pointer (some ⟨b4,0,none⟩)∧T' 3 = .pointer (some ⟨b6,0,none⟩)∧T' 6 = .pointer (some ⟨b24,0,none⟩)∧T' 7 = .pointer (some ⟨b26,0,none⟩)∧T' 9 = .int .i64 y10∧T' 68 = .int .i64 (d25.ops.length:Int)∧T' 69 = .int .i64 y38∧topSameNode_l2 y10 rec11 d25 d27 k40 y38=some r) fu ?_ ?_ ?_
 exact ⟨M30,(0:Int),(Qg _ _ _),hS,hT31_2,hT31_3,hT31_6,hT31_7,hT31_9,rfl,rfl,hz⟩
 rintro T' w' ⟨_,_,_,_,_,_,_,_,_,_,_,hz⟩
 rw [topSameNode_l2] at hz
 cases hz
 intro k40
 rintro T37 w35 ⟨M36,y38,hx42,hS,hT37_2,hT37_3,hT37_6,hT37_7,hT37_9,hT37_68,hT37_69,hz⟩
 replace hb24:=Rep.mono hx42.1 hb24
 replace hb26:=Rep.mono hx42.1 hb26
 replace hF20:=Qc hF20 hx42
 have hF41:=hx42
 rw [topSameNode_l2] at hz
 obtain ⟨rec39,hrec39⟩ : ∃ f,f=topSameNode_l2 y10 rec11 d25 d27 k40:=⟨_,rfl⟩
 rw [← hrec39] at hz
 refine Qh <|Qi <|Qd (Zq hT37_69 hT37_68) ?_
 refine Qf (Qa ?_)
 refine Qh ?_
 refine Qs rfl (fun hc43 => ?_) (fun hc43 => ?_)
 replace hz:=Qm hz hc43
 refine Qu (Qa ?_)
 refine Qh <|Qy <|Qh <|Qi <|Qd (Qe (.int .i64 y38) hT37_69) <|Qd (Qk (.int .i64 y38) rfl) ?_
 refine Qf (Qa ?_)
 refine Qh <|Jr Z7 (by kernel_rfl) hS <|Yh (Qp V3 hT37_6) ?_
 obtain ⟨v44,ev44,hv44⟩:=(Yt (rr hb24))
 refine Yh (Ql v44 Vf rfl (bvBS (j:=1) rfl) ev44) <|Yh (Qe (.int .i64 y38) rfl) ?_
 obtain ⟨x46,hx45,hz⟩:=Qb hz
 obtain ⟨b45,o45,c45,p45,hv45,hi45,hj45,hM45,hr45⟩:=Yb hv44 hx45
 replace hr45:rep _ (sl p45 (o45+Int.toNat y38*3) 3) x46:=hr45
 refine Yh (Yn il27 rfl hv45 rfl hi45 hj45) ?_
 have ha47:=hr45
 refine Yh (Ze ta65 rfl (bvMS hM45) (Rep.len ha47)) <|Yh (Qp V3 hT37_7) ?_
 obtain ⟨v48,ev48,hv48⟩:=(Yt (rr hb26))
 refine Yh (Ql v48 Vf rfl (bvBS (j:=0) rfl) ev48) <|Yh (Qe (.int .i64 y38) rfl) ?_
 obtain ⟨x50,hx49,hz⟩:=Qb hz
 obtain ⟨b49,o49,c49,p49,hv49,hi49,hj49,hM49,hr49⟩:=Yb hv48 hx49
 replace hr49:rep _ (sl p49 (o49+Int.toNat y38*3) 3) x50:=hr49
 refine Yh (Yn il27 rfl hv49 rfl hi49 hj49) ?_
 have ha51:=hr49
 refine Yh (Ze ta65 rfl (bvMS hM49) (Rep.len ha51)) <|Yh (Y_neA rfl rfl eg65 ha47 ha51) <|WQ_nil ?_
 intro w52 hS
 refine (Qa ?_)
 refine Qs rfl (fun hc53 => ?_) (fun hc53 => ?_)
 replace hz:=Qm hz hc53
 refine Qh <|Qi <|Qd (Qk (.bool false) rfl) ?_
 refine Qf (Qa ?_)
 cases hz
 exact Q4 (Zf (Qq (Qq (Zf (Zf (Qq (Qq (Zf (Qq (Yi rfl rfl ⟨rfl,(Qo (Qo (Qo (Qo hS)))).kept⟩))))))))))
 replace hz:=Qn hz hc53
 refine Qu (Q8 ?_)
 refine (Qa ?_)
 refine Qi <|Qd (Z2 hT37_69 rfl) <|Qd (Qe (.int .i64 (IntKind.wrap .i64 (y38+1))) rfl) ?_
 refine Qf (Qa ?_)
 exact ⟨M36,(IntKind.wrap .i64 (y38+1)),hF41,hS,hT37_2,hT37_3,hT37_6,hT37_7,hT37_9,hT37_68,rfl,(by rw [← hrec39];exact hz)⟩
 replace hz:=Qn hz hc43
 refine Zu <|Q0 <|Q0 <|Zv ?_
 refine (Q8 ?_)
 refine (Qa ?_)
 exact ⟨M36,hF20,(Yu (Yu hS hs26) hs24),hT37_2,hT37_3,hT37_9,hz⟩
 rintro T18 w16 ⟨M17,hx19,hS,hT18_2,hT18_3,hT18_9,hz⟩
 replace hF13:=Qc hF13 hx19
 rw [topSameNode_j1] at hz
 refine Qi <|Qd (Z2 hT18_9 rfl) <|Qd (Qe (.int .i64 (IntKind.wrap .i64 (y10+1))) rfl) ?_
 refine Qf (Qa ?_)
 exact ⟨M17,(IntKind.wrap .i64 (y10+1)),hF13,hS,hT18_2,hT18_3,rfl,(by rw [← hrec11];exact hz)⟩
 replace hz:=Qn hz hc15
 refine Zu <|Q0 <|Q0 <|Zv ?_
 refine (Qa ?_)
 refine Qz (fun T' w' => ∃ M124 c126,Mm.ext w.heap.size noX M8 M124∧St w noX M124 [.box b6 cx2 34,.box b4 cx1 34] w'∧T' 4 = .bool c126∧topSameNode_j5 c126=some r) ?_ ?_
 have hF128:=Qg w.heap.size noX M8
 refine Qi <|Qd (Qp K8 hT9_2) ?_
 obtain ⟨v129,ev129,hv129⟩:=(V9 (rr hcx1))
 refine Qd (Ql v129 Zy rfl (hS.bvB 1 rfl) ev129) <|Qd (Qp K8 hT9_3) ?_
 obtain ⟨v130,ev130,hv130⟩:=(V9 (rr hcx2))
 refine Qd (Ql v130 Zy rfl (hS.bvB 0 rfl) ev130) ?_
 obtain ⟨r133,hr132,hz⟩:=Qb hz
 refine Qt (Zz (vs:=[v129,v130]) (v := .bool r133) cb29 (Z6 rfl rfl) hS (topSameNumbers_ok hS.agree hv129 hv130 hr132) ?_)
 intro w131 hS
 refine Qd (Qe (.bool r133) rfl) ?_
 rcases ic hz with ⟨hc134,hz⟩ | ⟨hc134,hz⟩<;>rw [hc134]
 refine Qj rfl rfl (Qp fa34_2 hT9_2) ?_
 have ha135:=(Ja (rr hcx1))
 refine Qj rfl rfl (Ze ta32 rfl (hS.bvB 1 rfl) (Rep.len ha135)) <|Qj rfl rfl (Qp fa34_2 hT9_3) ?_
 have ha136:=(Ja (rr hcx2))
 refine Qj rfl rfl (Ze ta32 rfl (hS.bvB 0 rfl) (Rep.len ha136)) <|Qj rfl rfl (Y_eqA rfl rfl eg32 ha135 ha136) <|Q1 2 rfl ?_
 refine Qf (Qa ?_)
 exact ⟨M8,(decide (x1.values=x2.values)),hF128,hS,rfl,hz⟩
 refine Q1 7 rfl ?_
 refine Qf (Qa ?_)
 exact ⟨M8,false,hF128,hS,rfl,hz⟩
 rintro T125 w123 ⟨M124,c126,hx127,hS,hT125_4,hz⟩
 rw [topSameNode_j5] at hz
 cases hz
 exact Q4 (Yi rfl hT125_4 ⟨rfl,(Qo (Qo hS)).kept⟩)
end Go.Proofs.Yteilffoclpgijaa
namespace Go.Proofs.Yteilffoclpgijaa
open Go.RowKit
open Rep (rep)
set_option linter.unusedVariables false
def topGoodF_j1 (y25:Int) (rec26:GCluster→(List ByteArray)→Int→Option (Bool × GCluster × (List ByteArray))) (d35:GCluster) (l38:List ByteArray):Option (Bool × GCluster × (List ByteArray)) :=
 rec26 d35 l38 (IntKind.wrap .i64 (y25+1))
def topGoodF_j2 (l22:List ByteArray) (y25:Int) (rec26:GCluster→(List ByteArray)→Int→Option (Bool × GCluster × (List ByteArray))) (d55:GCluster) (c57:Bool):Option (Bool × GCluster × (List ByteArray)) :=
 (bif c57 then
 some (false,d55,l22)
 else
 topGoodF_j1 y25 rec26 d55 l22)
def topGoodF_l2 (fu:Nat) (l22:List ByteArray):Nat→GCluster→Int→Option (Bool × GCluster × (List ByteArray))
 | 0,_,_=>none
 | n+1,d84,y86 =>
 (bif decide (y86<32) then
 (clCaseD fu d84 y86).bind fun r94 =>
 (postGoodD fu r94).bind fun r97 =>
 (bif !r97 then
 some (false,d84,l22)
 else
 (topGoodF_l2 fu l22 n) d84 (IntKind.wrap .i64 (y86+1)))
 else
 some (true,d84,l22))
def topGoodF_l1 (fu:Nat):Nat→GCluster→(List ByteArray)→Int→Option (Bool × GCluster × (List ByteArray))
 | 0,_,_,_=>none
 | n+1,d19,l22,y25 =>
 (bif decide (y25<6) then
 (clNodeD fu d19 y25).bind fun r45 =>
 (some r45.1).bind fun d50 =>
 (nodeGoodD fu d50).bind fun r64 =>
 (bif !r64 then
 topGoodF_j2 l22 y25 (topGoodF_l1 fu n) d19 true
 else
 (bif r45.2 then
 (some ({ entries:=Zr.zd,order:=Zr.zd,values:=Zr.zd }:GNode)).bind fun d69 =>
 (topSameNodeD fu d50 d69).bind fun r72 =>
 (bif !r72 then
 topGoodF_j2 l22 y25 (topGoodF_l1 fu n) d19 true
 else
 (clLogD fu d19 y25).bind fun r76 =>
 topGoodF_j2 l22 y25 (topGoodF_l1 fu n) d19 (decide ((r76.size:Int)>65536)))
 else
 (clLogD fu d19 y25).bind fun r79 =>
 topGoodF_j2 l22 y25 (topGoodF_l1 fu n) d19 (decide ((r79.size:Int)>65536))))
 else
 topGoodF_l2 fu l22 fu d19 0)
def topGoodFD (fu:Nat) (x1:GCluster) (l3:List ByteArray) (x4:GAct) (x5:GReply):Option (Bool × GCluster × (List ByteArray)) :=
 (clNetD fu x1 l3).bind fun r12 =>
 (bif decide ((r12.1.length:Int)>60) then
 some (false,x1,r12.2)
 else
 topGoodF_l1 fu fu x1 r12.2 0)
set_option maxRecDepth 100000 in
set_option maxHeartbeats 4000000 in
theorem topGoodF_ok {M:Mm} {w:World} {bx1:Nat} {cx1:List Value} {ux1_6:Value} {xsx1_6:List Value} {cx4:List Value} {cx5:List Value} {x1:GCluster} {l3:List ByteArray} {x4:GAct} {x5:GReply} {fu:Nat} {r:Bool × GCluster × (List ByteArray)} (hS:St w (lentX [.box bx1 cx1 90,.stk ux1_6 9 1 xsx1_6]) M [.box bx1 cx1 90,.stk ux1_6 9 1 xsx1_6] w) (hcx1:rep M cx1 x1) (hkx1_6:skr M ux1_6 xsx1_6 l3) (hpx1_6:sl cx1 1993 1=[ux1_6]) (hcx4:rep M cx4 x4) (hcx5:rep M cx5 x5) (hz:topGoodFD fu x1 l3 x4 x5=some r) :
    Calls Try.prog 36 #[.pointer (some ⟨bx1,0,none⟩),.agg cx4.toArray,.agg cx5.toArray] w (GivesL M w [.box bx1 cx1 90,.stk ux1_6 9 1 xsx1_6] (fun M' u L' => ∃ k0 u1 x1,u = .bool r.1∧L'=[.box bx1 k0 90,.stk u1 9 1 x1]∧rep M' k0 r.2.1∧skr M' u1 x1 r.2.2∧sl k0 1993 1=[u1])):=by
 refine Zh Try.func36 rfl 53 rfl rfl (by kernel_rfl) fun T hT => ?_
 have hT_0:T 0 = .pointer (some ⟨bx1,0,none⟩):=hT 0
 have hT_1:T 1 = .agg cx4.toArray:=hT 1
 have hT_2:T 2 = .agg cx5.toArray:=hT 2
 clear hT
 have hE:=Qg w.heap.size (lentX [.box bx1 cx1 90,.stk ux1_6 9 1 xsx1_6]) M
 rw [topGoodFD] at hz
 refine Qh <|Qi ?_
 refine Qt (Yq (v := .agg cx4.toArray) (cs:=cx4) hT_1 rfl hS ?_)
 intro b7 w6 hb7 hS
 refine Qt (Yq (v := .agg cx5.toArray) (cs:=cx5) hT_2 rfl hS ?_)
 intro b9 w8 hb9 hS
 refine Qd (Qk (.bool false) rfl) ?_
 refine Qf (Qa ?_)
 refine Qh <|Qh <|Qi <|Qd (Qe (.pointer (some ⟨bx1,0,none⟩)) hT_0) ?_
 obtain ⟨r12,hr11,hz⟩:=Qb hz
 refine Qt (Zt (vs:=[.pointer (some ⟨bx1,0,none⟩)]) (L:=[.box bx1 cx1 90,.stk ux1_6 9 1 xsx1_6]) (R:=[.box b9 cx5 40,.box b7 cx4 43]) (rv:=(fun M' u L' => ∃ v0 u1 x1,u=v0∧L'=[.box bx1 cx1 90,.stk u1 9 1 x1]∧repL M' v0 r12.1∧skr M' u1 x1 r12.2∧sl cx1 1993 1=[u1])) cb32 (Zp rfl) hS (hS.sel [2,3,0,1] (by decide) rfl) (fun hS=>clNet_ok hS hcx1 hkx1_6 hpx1_6 hr11) ?_)
 rintro u11 M11 w10 L11 hx11 ⟨v0_11,u1_11,x1_11,rfl,hL11,f11_0,f11_1,f11_2⟩ hS
 replace hS:=hS _ hL11
 replace hcx1:=Rep.mono hx11.1 hcx1
 replace hE:=Qc hE hx11
 obtain ⟨a13,c13,hv13,_⟩:=Q3 f11_0
 refine Qd (Zj Y4 (Vs hv13 rfl)) <|Qd (Yx rfl rfl) ?_
 refine Qf (Qa ?_)
 refine Qs rfl (fun hc14 => ?_) (fun hc14 => ?_)
 replace hz:=Qm hz hc14
 refine Qh <|Qi <|Qd (Qk (.bool false) rfl) ?_
 refine Qf (Qa ?_)
 cases hz
 exact Q4 (Qq (Yi rfl rfl ⟨_,M11,_,rfl,hE,(hS.sel (H':=[.box bx1 cx1 90,.stk u1_11 9 1 x1_11]) [0,1] (by decide) rfl),cx1,u1_11,x1_11,rfl,rfl,hcx1,f11_1,f11_2⟩))
 replace hz:=Qn hz hc14
 refine Qu (Qa ?_)
 refine Qh <|Qh <|Qi <|Qd (Qe (.int .i64 0) rfl) ?_
 refine Qf (Qa ?_)
 refine Qy ?_
 refine Z0 (fun k27 T' w' => ∃ M16 cs18 d19 v20 xs21 l22 y25,Mm.ext w.heap.size (lentX [.box bx1 cx1 90,.stk ux1_6 9 1 xsx1_6]) M11 M16∧St w (lentX [.box bx1 cx1 90,.stk ux1_6 9 1 xsx1_6]) M16 [.box bx1 cs18 90,.stk v20 9 1 xs21,.box b9 cx5 40,.box b7 cx4 43] w'∧rep M16 cs18 d19∧skr M16 v20 xs21 l22∧sl cs18 (0+1993) 1=[v20]∧T' 0 = .pointer (some ⟨bx1,0,none⟩)∧T' 15 = .int .i64 y25∧topGoodF_l1 fu k27 d19 l22 y25=some r) fu ?_ ?_ ?_
 exact ⟨M11,cx1,x1,u1_11,x1_11,r12.2,(0:Int),(Qg _ _ _),hS,hcx1,f11_1,f11_2,hT_0,rfl,hz⟩
 rintro T' w' ⟨_,_,_,_,_,_,_,_,_,_,_,_,_,_,hz⟩
 rw [topGoodF_l1] at hz
 cases hz
 intro k27
 rintro T17 w15 ⟨M16,cs18,d19,v20,xs21,l22,y25,hx29,hS,hb18,hk23,hp24,hT17_0,hT17_15,hz⟩
 replace hE:=Qc hE hx29
 have hF28:=hx29
 rw [topGoodF_l1] at hz
 obtain ⟨rec26,hrec26⟩ : ∃ f,f=topGoodF_l1 fu k27:=⟨_,rfl⟩
 rw [← hrec26] at hz
 refine Qh <|Qi <|Qd (Zq hT17_15 rfl) ?_
 refine Qf (Qa ?_)
 refine Qh ?_
 refine Qs rfl (fun hc30 => ?_) (fun hc30 => ?_)
 replace hz:=Qm hz hc30
 refine Qu (Qa ?_)
 refine Qz (fun T' w' => ∃ M32 cs34 d35 v36 xs37 l38,Mm.ext w.heap.size (lentX [.box bx1 cx1 90,.stk ux1_6 9 1 xsx1_6]) M16 M32∧St w (lentX [.box bx1 cx1 90,.stk ux1_6 9 1 xsx1_6]) M32 [.box bx1 cs34 90,.stk v36 9 1 xs37,.box b9 cx5 40,.box b7 cx4 43] w'∧rep M32 cs34 d35∧skr M32 v36 xs37 l38∧sl cs34 (0+1993) 1=[v36]∧T' 0 = .pointer (some ⟨bx1,0,none⟩)∧T' 15 = .int .i64 y25∧topGoodF_j1 y25 rec26 d35 l38=some r) ?_ ?_
 have hF42:=Qg w.heap.size (lentX [.box bx1 cx1 90,.stk ux1_6 9 1 xsx1_6]) M16
 refine Qy <|Qh <|Qi <|Qd (Qe (.int .i64 y25) hT17_15) <|Qd (Qk (.int .i64 y25) rfl) ?_
 refine Qf (Qa ?_)
 refine Qh <|Qi <|Qd (Qe (.pointer (some ⟨bx1,0,none⟩)) hT17_0) <|Qd (Qe (.int .i64 y25) rfl) ?_
 obtain ⟨r45,hr44,hz⟩:=Qb hz
 refine Qt (Zt (vs:=[.pointer (some ⟨bx1,0,none⟩),.int .i64 y25]) (L:=[.box bx1 cs18 90]) (R:=[.stk v20 9 1 xs21,.box b9 cx5 40,.box b7 cx4 43]) (rv:=(fun M' u L' => ∃ c0,u = .tuple #[.agg c0.toArray,.bool r45.2]∧L'=[.box bx1 cs18 90]∧rep M' c0 r45.1)) cb17 (Z6 rfl rfl) hS (hS.sel [0,1,2,3] (by decide) rfl) (fun hS=>clNode_ok hS hb18 hr44) ?_)
 rintro u44 M44 w43 L44 hx44 ⟨c0_44,rfl,hL44,f44_0⟩ hS
 replace hS:=hS _ hL44
 replace hb18:=Rep.mono hx44.1 hb18
 replace hk23:=Zo hx44.1 hk23
 replace hE:=Qc hE hx44
 replace hF42:=Qc hF42 hx44
 refine Qd (Qe (.tuple #[.agg c0_44.toArray,.bool r45.2]) rfl) <|Qd (Zc (v := .agg c0_44.toArray) rfl rfl) <|Qd (Zc (v := .bool r45.2) rfl rfl) ?_
 refine Qt (Zi tz34 hS ?_)
 intro b47 w46 hb47 hS
 have zb47:rep M44 (Zr.zc GNode) (Zr.zd:GNode):=Zr.zr
 obtain ⟨d50,hd49,hz⟩:=Qb hz
 refine Qt (Q7 0 201 hS rfl zb47 rfl rfl f44_0 rfl rfl (Lf (rr zb47) f44_0) hd49 ?_)
 intro cs49 w48 hb49 ha49 hs49 hS
 refine Qd (Qk (.bool r45.2) rfl) ?_
 refine Qf (Qa ?_)
 refine Qz (fun T' w' => ∃ M52 cs54 d55 c57,Mm.ext w.heap.size (lentX [.box bx1 cx1 90,.stk ux1_6 9 1 xsx1_6]) M44 M52∧St w (lentX [.box bx1 cx1 90,.stk ux1_6 9 1 xsx1_6]) M52 [.box b47 cs49 34,.box bx1 cs54 90,.stk v20 9 1 xs21,.box b9 cx5 40,.box b7 cx4 43] w'∧rep M52 cs54 d55∧sl cs54 (0+1993) 1=[v20]∧T' 0 = .pointer (some ⟨bx1,0,none⟩)∧T' 15 = .int .i64 y25∧T' 42 = .bool c57∧topGoodF_j2 l22 y25 rec26 d55 c57=some r) ?_ ?_
 have hF60:=Qg w.heap.size (lentX [.box bx1 cx1 90,.stk ux1_6 9 1 xsx1_6]) M44
 refine Qi ?_
 have ha61:=(rr hb49)
 refine Qd (Ze Vh rfl (hS.bvB 0 rfl) (Rep.len ha61)) ?_
 obtain ⟨r64,hr63,hz⟩:=Qb hz
 refine Qt (Zz (vs:=[.agg (sl cs49 (0) 201).toArray]) (v := .bool r64) cb37 (Zp rfl) hS (nodeGood_ok hS.agree ha61 hr63) ?_)
 intro w62 hS
 refine Qd (Ya rfl) <|Qd (Qe (.bool (!r64)) rfl) ?_
 rcases ic hz with ⟨hc65,hz⟩ | ⟨hc65,hz⟩<;>rw [hc65]
 refine Q1 15 rfl ?_
 refine Qf (Qa ?_)
 exact ⟨M44,cs18,d19,true,hF60,hS,hb18,hp24,hT17_0,hT17_15,rfl,hz⟩
 refine Q1 2 rfl ?_
 rcases ic hz with ⟨hc66,hz⟩ | ⟨hc66,hz⟩<;>rw [hc66]
 have ha67:=(rr hb49)
 refine Qj rfl rfl (Ze Vh rfl (hS.bvB 0 rfl) (Rep.len ha67)) ?_
 obtain ⟨d69,hd68,hz⟩:=Qb hz
 obtain ⟨cs68,hf68,ha68⟩ : ∃ cs,fillZ (([(0,192),(192,1),(193,8)]:List (Nat × Nat))[·]?) (Zr.zc GNode) []=some cs∧rep M44 cs d69:=⟨_,Z8,Z9 (x:=({ entries:=Zr.zd,order:=Zr.zd,values:=Zr.zd }:GNode)) (Zr.zr:rep M44 (Zr.zc GNode) (Zr.zd:GNode)) hd68⟩
 refine Qj rfl rfl (Zx [] tb34 Vk hf68) ?_
 obtain ⟨r72,hr71,hz⟩:=Qb hz
 refine Vy rfl rfl (Zz (vs:=[.agg (sl cs49 (0) 201).toArray,.agg cs68.toArray]) (v := .bool r72) cb18 (Z6 rfl rfl) hS (topSameNode_ok hS.agree ha67 ha68 hr71) ?_)
 intro w70 hS
 refine Qj rfl rfl (Ya rfl) <|Q1 3 rfl ?_
 rcases ic hz with ⟨hc73,hz⟩ | ⟨hc73,hz⟩<;>rw [hc73]
 refine Q1 6 rfl ?_
 refine Qf (Qa ?_)
 exact ⟨M44,cs18,d19,true,hF60,hS,hb18,hp24,hT17_0,hT17_15,rfl,hz⟩
 refine Qj rfl rfl (Qe (.pointer (some ⟨bx1,0,none⟩)) hT17_0) <|Qj rfl rfl (Qe (.int .i64 y25) rfl) ?_
 obtain ⟨r76,hr75,hz⟩:=Qb hz
 refine Vy rfl rfl (Zt (vs:=[.pointer (some ⟨bx1,0,none⟩),.int .i64 y25]) (L:=[.box bx1 cs18 90]) (R:=[.box b47 cs49 34,.stk v20 9 1 xs21,.box b9 cx5 40,.box b7 cx4 43]) (rv:=(fun M' u L'=>u = .string r76∧L'=[.box bx1 cs18 90])) cb38 (Z6 rfl rfl) hS (hS.sel [1,0,2,3,4] (by decide) rfl) (fun hS=>clLog_ok hS hb18 hr75) ?_)
 rintro u75 M75 w74 L75 hx75 ⟨rfl,hL75⟩ hS
 replace hS:=hS _ hL75
 replace hb18:=Rep.mono hx75.1 hb18
 replace hF60:=Qc hF60 hx75
 refine Qj rfl rfl (V4 Q9 rfl) <|Qj rfl rfl (Yx rfl rfl) <|Qd (Zg (.bool (decide ((r76.size:Int)>65536))) rfl rfl) ?_
 refine Qf (Qa ?_)
 exact ⟨M75,cs18,d19,(decide ((r76.size:Int)>65536)),hF60,(hS.sel (H':=[.box b47 cs49 34,.box bx1 cs18 90,.stk v20 9 1 xs21,.box b9 cx5 40,.box b7 cx4 43]) [1,0,2,3,4] (by decide) rfl),hb18,hp24,hT17_0,hT17_15,rfl,hz⟩
 refine Q1 7 rfl <|Qj rfl rfl (Qe (.pointer (some ⟨bx1,0,none⟩)) hT17_0) <|Qj rfl rfl (Qe (.int .i64 y25) rfl) ?_
 obtain ⟨r79,hr78,hz⟩:=Qb hz
 refine Vy rfl rfl (Zt (vs:=[.pointer (some ⟨bx1,0,none⟩),.int .i64 y25]) (L:=[.box bx1 cs18 90]) (R:=[.box b47 cs49 34,.stk v20 9 1 xs21,.box b9 cx5 40,.box b7 cx4 43]) (rv:=(fun M' u L'=>u = .string r79∧L'=[.box bx1 cs18 90])) cb38 (Z6 rfl rfl) hS (hS.sel [1,0,2,3,4] (by decide) rfl) (fun hS=>clLog_ok hS hb18 hr78) ?_)
 rintro u78 M78 w77 L78 hx78 ⟨rfl,hL78⟩ hS
 replace hS:=hS _ hL78
 replace hb18:=Rep.mono hx78.1 hb18
 replace hF60:=Qc hF60 hx78
 refine Qj rfl rfl (V4 Q9 rfl) <|Qj rfl rfl (Yx rfl rfl) <|Qd (Zg (.bool (decide ((r79.size:Int)>65536))) rfl rfl) ?_
 refine Qf (Qa ?_)
 exact ⟨M78,cs18,d19,(decide ((r79.size:Int)>65536)),hF60,(hS.sel (H':=[.box b47 cs49 34,.box bx1 cs18 90,.stk v20 9 1 xs21,.box b9 cx5 40,.box b7 cx4 43]) [1,0,2,3,4] (by decide) rfl),hb18,hp24,hT17_0,hT17_15,rfl,hz⟩
 rintro T53 w51 ⟨M52,cs54,d55,c57,hx58,hS,hb54,hp56,hT53_0,hT53_15,hT53_42,hz⟩
 replace hk23:=Zo hx58.1 hk23
 replace hE:=Qc hE hx58
 replace hF42:=Qc hF42 hx58
 rw [topGoodF_j2] at hz
 refine Qs hT53_42 (fun hc59 => ?_) (fun hc59 => ?_)
 replace hz:=Qm hz hc59
 refine Qh <|Qi <|Qd (Qk (.bool false) rfl) ?_
 refine Qf (Qa ?_)
 cases hz
 exact Q4 (Zf (Qq (Qq (Zf (Qq (Yi rfl rfl ⟨_,M52,_,rfl,hE,(hS.sel (H':=[.box bx1 cs54 90,.stk v20 9 1 xs21]) [1,2] (by decide) rfl),cs54,v20,xs21,rfl,rfl,hb54,hk23,hp56⟩))))))
 replace hz:=Qn hz hc59
 refine Qu (Q8 ?_)
 refine (Qa ?_)
 exact ⟨M52,cs54,d55,v20,xs21,l22,hF42,(Yu hS hb47),hb54,hk23,hp56,hT53_0,hT53_15,hz⟩
 rintro T33 w31 ⟨M32,cs34,d35,v36,xs37,l38,hx41,hS,hb34,hk39,hp40,hT33_0,hT33_15,hz⟩
 replace hF28:=Qc hF28 hx41
 rw [topGoodF_j1] at hz
 refine Qi <|Qd (Z2 hT33_15 rfl) <|Qd (Qe (.int .i64 (IntKind.wrap .i64 (y25+1))) rfl) ?_
 refine Qf (Qa ?_)
 exact ⟨M32,cs34,d35,v36,xs37,l38,(IntKind.wrap .i64 (y25+1)),hF28,hS,hb34,hk39,hp40,hT33_0,rfl,(by rw [← hrec26];exact hz)⟩
 replace hz:=Qn hz hc30
 refine Zu <|Q0 <|Q0 <|Zv ?_
 refine (Qa ?_)
 refine Qh <|Qh <|Qi <|Qd (Qe (.int .i64 0) rfl) ?_
 refine Qf (Qa ?_)
 refine Qy ?_
 refine Z0 (fun k88 T' w' => ∃ M81 cs83 d84 y86,Mm.ext w.heap.size (lentX [.box bx1 cx1 90,.stk ux1_6 9 1 xsx1_6]) M16 M81∧St w (lentX [.box bx1 cx1 90,.stk ux1_6 9 1 xsx1_6]) M81 [.box bx1 cs83 90,.stk v20 9 1 xs21,.box b9 cx5 40,.box b7 cx4 43] w'∧rep M81 cs83 d84∧sl cs83 (0+1993) 1=[v20]∧T' 0 = .pointer (some ⟨bx1,0,none⟩)∧T' 44 = .int .i64 y86∧topGoodF_l2 fu l22 k88 d84 y86=some r) fu ?_ ?_ ?_
 exact ⟨M16,cs18,d19,(0:Int),(Qg _ _ _),hS,hb18,hp24,hT17_0,rfl,hz⟩
 rintro T' w' ⟨_,_,_,_,_,_,_,_,_,_,hz⟩
 rw [topGoodF_l2] at hz
 cases hz
 intro k88
 rintro T82 w80 ⟨M81,cs83,d84,y86,hx90,hS,hb83,hp85,hT82_0,hT82_44,hz⟩
 replace hk23:=Zo hx90.1 hk23
 replace hE:=Qc hE hx90
 have hF89:=hx90
 rw [topGoodF_l2] at hz
 obtain ⟨rec87,hrec87⟩ : ∃ f,f=topGoodF_l2 fu l22 k88:=⟨_,rfl⟩
 rw [← hrec87] at hz
 refine Qh <|Qi <|Qd (Zq hT82_44 rfl) ?_
 refine Qf (Qa ?_)
 refine Qh ?_
 refine Qs rfl (fun hc91 => ?_) (fun hc91 => ?_)
 replace hz:=Qm hz hc91
 refine Qu (Qa ?_)
 refine Qh <|Qy <|Qh <|Qi <|Qd (Qe (.int .i64 y86) hT82_44) <|Qd (Qk (.int .i64 y86) rfl) ?_
 refine Qf (Qa ?_)
 refine Qh <|Qi <|Qd (Qe (.pointer (some ⟨bx1,0,none⟩)) hT82_0) <|Qd (Qe (.int .i64 y86) rfl) ?_
 obtain ⟨r94,hr93,hz⟩:=Qb hz
 refine Qt (Zt (vs:=[.pointer (some ⟨bx1,0,none⟩),.int .i64 y86]) (L:=[.box bx1 cs83 90]) (R:=[.stk v20 9 1 xs21,.box b9 cx5 40,.box b7 cx4 43]) (rv:=(fun M' u L' => ∃ c0,u = .agg c0.toArray∧L'=[.box bx1 cs83 90]∧rep M' c0 r94)) cb20 (Z6 rfl rfl) hS (hS.sel [0,1,2,3] (by decide) rfl) (fun hS=>clCase_ok hS hb83 hr93) ?_)
 rintro u93 M93 w92 L93 hx93 ⟨c0_93,rfl,hL93,f93_0⟩ hS
 replace hS:=hS _ hL93
 replace hk23:=Zo hx93.1 hk23
 replace hb83:=Rep.mono hx93.1 hb83
 replace hE:=Qc hE hx93
 replace hF89:=Qc hF89 hx93
 obtain ⟨r97,hr96,hz⟩:=Qb hz
 refine Qt (Zz (vs:=[.agg c0_93.toArray]) (v := .bool r97) cb39 (Zp rfl) hS (postGood_ok hS.agree f93_0 hr96) ?_)
 intro w95 hS
 refine Qd (Ya rfl) ?_
 refine Qf (Qa ?_)
 refine Qs rfl (fun hc98 => ?_) (fun hc98 => ?_)
 replace hz:=Qm hz hc98
 refine Qh <|Qi <|Qd (Qk (.bool false) rfl) ?_
 refine Qf (Qa ?_)
 cases hz
 exact Q4 (Zf (Qq (Qq (Zf (Qq (Yi rfl rfl ⟨_,M93,_,rfl,hE,(hS.sel (H':=[.box bx1 cs83 90,.stk v20 9 1 xs21]) [0,1] (by decide) rfl),cs83,v20,xs21,rfl,rfl,hb83,hk23,hp85⟩))))))
 replace hz:=Qn hz hc98
 refine Qu (Q8 ?_)
 refine (Qa ?_)
 refine Qi <|Qd (Z2 hT82_44 rfl) <|Qd (Qe (.int .i64 (IntKind.wrap .i64 (y86+1))) rfl) ?_
 refine Qf (Qa ?_)
 exact ⟨M93,cs83,d84,(IntKind.wrap .i64 (y86+1)),hF89,hS,hb83,hp85,hT82_0,rfl,(by rw [← hrec87];exact hz)⟩
 replace hz:=Qn hz hc91
 refine Zu <|Q0 <|Q0 <|Zv ?_
 refine (Qa ?_)
 refine Qh <|Qi <|Qd (Qk (.bool true) rfl) ?_
 refine Qf (Qa ?_)
 cases hz
 exact Q4 (Yi rfl rfl ⟨_,M81,_,rfl,hE,(hS.sel (H':=[.box bx1 cs83 90,.stk v20 9 1 xs21]) [0,1] (by decide) rfl),cs83,v20,xs21,rfl,rfl,hb83,hk23,hp85⟩)
def playG_j1 (fu:Nat) (x1:List GAct) (d14:GCluster) (l17:List ByteArray) (y20:Int) (rec21:GCluster→(List ByteArray)→Int→Option (GCluster × Bool × (List ByteArray))):Option (GCluster × Bool × (List ByteArray)) :=
 (idx x1 y20).bind fun x30 =>
 (clDoD fu d14 l17 x30).bind fun r34 =>
 (some r34.1).bind fun d39 =>
 (idx x1 y20).bind fun x44 =>
 (topGoodFD fu r34.2.1 r34.2.2 x44 d39).bind fun r50 =>
 (bif !r50.1 then
 some (r50.2.1,false,r50.2.2)
 else
 rec21 r50.2.1 r50.2.2 (IntKind.wrap .i64 (y20+1)))
def playG_j2 (fu:Nat) (x1:List GAct) (d14:GCluster) (l17:List ByteArray) (y20:Int) (rec21:GCluster→(List ByteArray)→Int→Option (GCluster × Bool × (List ByteArray))) (c57:Bool):Option (GCluster × Bool × (List ByteArray)) :=
 (bif c57 then
 playG_j1 fu x1 d14 l17 y20 rec21
 else
 some (d14,true,l17))
def playG_l1 (fu:Nat) (x1:List GAct):Nat→GCluster→(List ByteArray)→Int→Option (GCluster × Bool × (List ByteArray))
 | 0,_,_,_=>none
 | n+1,d14,l17,y20 =>
 (bif decide (y20<(x1.length:Int)) then
 playG_j2 fu x1 d14 l17 y20 (playG_l1 fu x1 n) (decide (y20<150))
 else
 playG_j2 fu x1 d14 l17 y20 (playG_l1 fu x1 n) false)
def playGD (fu:Nat) (x1:List GAct):Option (GCluster × Bool × (List ByteArray)) :=
 (aliveD fu).bind fun r4 =>
 (bif !r4 then
 none
 else
 (clNewD fu).bind fun r8 =>
 playG_l1 fu x1 fu r8.1 r8.2 0)
set_option maxRecDepth 100000 in
set_option maxHeartbeats 4000000 in
theorem playG_ok {M:Mm} {w:World} {vx1:Value} {x1:List GAct} {fu:Nat} {r:GCluster × Bool × (List ByteArray)} (hA:Agree M w) (hvx1:repL M vx1 x1) (hz:playGD fu x1=some r) :
    Calls Try.prog 15 #[vx1,evT (fun _=>undef) (.func 36)] w (GivesL M w [] (fun M' u L' => ∃ b0 k0 uP6 xP6,u = .tuple #[.pointer (some ⟨b0,0,none⟩),.bool r.2.1]∧L'=[.box b0 k0 90,.stk uP6 9 1 xP6]∧rep M' k0 r.1∧skr M' uP6 xP6 r.2.2∧sl k0 1993 1=[uP6])):=by
 refine Zh Try.func15 rfl 39 rfl rfl (by kernel_rfl) fun T hT => ?_
 have hT_0:T 0=vx1:=hT 0
 have hT_1:T 1=evT (fun _=>undef) (.func 36):=hT 1
 clear hT
 have hE:=Qg w.heap.size (lentX []) M
 have hS:St w (lentX []) M [] w:=Zs hA
 rw [playGD] at hz
 refine Qh <|Qi <|Q1 2 rfl ?_
 refine Qf (Qa ?_)
 refine Qh <|Qh <|Qi ?_
 obtain ⟨r4,hr3,hz⟩:=Qb hz
 refine Qt (Zz (vs:=[]) (v := .bool r4) cb33 args0 hS (alive_ok hS.agree hr3) ?_)
 intro w2 hS
 refine Qd (Ya rfl) ?_
 refine Qf (Qa ?_)
 refine Qs rfl (fun hc5 => ?_) (fun hc5 => ?_)
 replace hz:=Qm hz hc5
 refine Qh <|Qi <|Q1 2 rfl ?_
 refine Qf (Qa ?_)
 cases hz
 replace hz:=Qn hz hc5
 refine Qu (Qa ?_)
 refine Qh <|Qi ?_
 obtain ⟨r8,hr7,hz⟩:=Qb hz
 refine Qt (Zt (vs:=[]) (L:=[]) (R:=[]) (rv:=(fun M' u L' => ∃ b0 k0 uP6 xP6,u = .pointer (some ⟨b0,0,none⟩)∧L'=[.box b0 k0 90,.stk uP6 9 1 xP6]∧rep M' k0 r8.1∧skr M' uP6 xP6 r8.2∧sl k0 1993 1=[uP6])) cb41 args0 hS (hS.sel [] (by decide) rfl) (fun hS=>clNew_ok hS.agree hr7) ?_)
 rintro u7 M7 w6 L7 hx7 ⟨b0_7,k0_7,uP6_7,xP6_7,rfl,hL7,f7_0,f7_1,f7_2⟩ hS
 replace hS:=hS _ hL7
 replace hvx1:=Qw hx7.1 hvx1
 replace hE:=Qc hE hx7
 refine Qd (Qk (.pointer (some ⟨b0_7,0,none⟩)) rfl) ?_
 refine Qf (Qa ?_)
 refine Qh <|Qh <|Qi <|Qd (Qk (.int .i64 0) rfl) ?_
 refine Qf (Qa ?_)
 refine Qy ?_
 refine Z0 (fun k22 T' w' => ∃ M11 cs13 d14 v15 xs16 l17 y20,Mm.ext w.heap.size (lentX []) M7 M11∧St w (lentX []) M11 [.box b0_7 cs13 90,.stk v15 9 1 xs16] w'∧rep M11 cs13 d14∧skr M11 v15 xs16 l17∧sl cs13 (0+1993) 1=[v15]∧T' 0=vx1∧T' 1=evT (fun _=>undef) (.func 36)∧T' 6 = .pointer (some ⟨b0_7,0,none⟩)∧T' 7 = .int .i64 y20∧playG_l1 fu x1 k22 d14 l17 y20=some r) fu ?_ ?_ ?_
 exact ⟨M7,k0_7,r8.1,uP6_7,xP6_7,r8.2,(0:Int),(Qg _ _ _),hS,f7_0,f7_1,f7_2,hT_0,hT_1,rfl,rfl,hz⟩
 rintro T' w' ⟨_,_,_,_,_,_,_,_,_,_,_,_,_,_,_,_,hz⟩
 rw [playG_l1] at hz
 cases hz
 intro k22
 rintro T12 w10 ⟨M11,cs13,d14,v15,xs16,l17,y20,hx24,hS,hb13,hk18,hp19,hT12_0,hT12_1,hT12_6,hT12_7,hz⟩
 replace hvx1:=Qw hx24.1 hvx1
 replace hE:=Qc hE hx24
 have hF23:=hx24
 rw [playG_l1] at hz
 obtain ⟨rec21,hrec21⟩ : ∃ f,f=playG_l1 fu x1 k22:=⟨_,rfl⟩
 rw [← hrec21] at hz
 refine Qz (fun T' w' => ∃ M26,Mm.ext w.heap.size (lentX []) M11 M26∧St w (lentX []) M26 [.box b0_7 cs13 90,.stk v15 9 1 xs16] w'∧T' 0=vx1∧T' 1=evT (fun _=>undef) (.func 36)∧T' 6 = .pointer (some ⟨b0_7,0,none⟩)∧T' 7 = .int .i64 y20∧playG_j1 fu x1 d14 l17 y20 rec21=some r) ?_ ?_
 have hF53:=Qg w.heap.size (lentX []) M11
 refine Qz (fun T' w' => ∃ M55 c57,Mm.ext w.heap.size (lentX []) M11 M55∧St w (lentX []) M55 [.box b0_7 cs13 90,.stk v15 9 1 xs16] w'∧T' 0=vx1∧T' 1=evT (fun _=>undef) (.func 36)∧T' 6 = .pointer (some ⟨b0_7,0,none⟩)∧T' 7 = .int .i64 y20∧T' 19 = .bool c57∧playG_j2 fu x1 d14 l17 y20 rec21 c57=some r) ?_ ?_
 have hF60:=Qg w.heap.size (lentX []) M11
 refine Qi <|Qd (Qe (.int .i64 y20) hT12_7) <|Qd (Qe (vx1) hT12_0) ?_
 obtain ⟨a61,c61,hv61,_⟩:=Q3 hvx1
 refine Qd (Zj Try.underlying22 (Vs hv61 rfl)) <|Qd (Zq rfl rfl) <|Qd (Qe (.bool (decide (y20<(x1.length:Int)))) rfl) ?_
 rcases ic hz with ⟨hc62,hz⟩ | ⟨hc62,hz⟩<;>rw [hc62]
 refine Qj rfl rfl (Qe (.int .i64 y20) hT12_7) <|Qj rfl rfl (Zq rfl rfl) <|Qd (Z1 (.bool (decide (y20<150))) rfl rfl) ?_
 refine Qf (Qa ?_)
 exact ⟨M11,(decide (y20<150)),hF60,hS,hT12_0,hT12_1,hT12_6,hT12_7,rfl,hz⟩
 refine Q1 3 rfl ?_
 refine Qf (Qa ?_)
 exact ⟨M11,false,hF60,hS,hT12_0,hT12_1,hT12_6,hT12_7,rfl,hz⟩
 rintro T56 w54 ⟨M55,c57,hx58,hS,hT56_0,hT56_1,hT56_6,hT56_7,hT56_19,hz⟩
 replace hb13:=Rep.mono hx58.1 hb13
 replace hk18:=Zo hx58.1 hk18
 replace hE:=Qc hE hx58
 replace hF53:=Qc hF53 hx58
 rw [playG_j2] at hz
 refine Qs hT56_19 (fun hc59 => ?_) (fun hc59 => ?_)
 replace hz:=Qm hz hc59
 refine Qu (Qa ?_)
 exact ⟨M55,hF53,hS,hT56_0,hT56_1,hT56_6,hT56_7,hz⟩
 replace hz:=Qn hz hc59
 refine Zu <|Q0 <|Q0 <|Zv ?_
 refine (Qa ?_)
 refine Qh <|Qi <|Qd (Qe (.pointer (some ⟨b0_7,0,none⟩)) hT56_6) <|Q1 2 rfl ?_
 refine Qf (Qa ?_)
 cases hz
 exact Q4 (R_t2 rfl rfl rfl ⟨_,M55,_,rfl,hE,(hS.sel (H':=[.box b0_7 cs13 90,.stk v15 9 1 xs16]) [0,1] (by decide) rfl),b0_7,cs13,v15,xs16,rfl,rfl,hb13,hk18,hp19⟩)
 rintro T27 w25 ⟨M26,hx28,hS,hT27_0,hT27_1,hT27_6,hT27_7,hz⟩
 replace hvx1:=Qw hx28.1 hvx1
 replace hb13:=Rep.mono hx28.1 hb13
 replace hk18:=Zo hx28.1 hk18
 rw [playG_j1] at hz
 refine Qh <|Qy <|Qh <|Qi <|Qd (Qe (.pointer (some ⟨b0_7,0,none⟩)) hT27_6) <|Qd (Qe (vx1) hT27_0) <|Qd (Qe (.int .i64 y20) hT27_7) ?_
 obtain ⟨x30,hx29,hz⟩:=Qb hz
 obtain ⟨b29,o29,c29,p29,hv29,hi29,hj29,hM29,hr29⟩:=Yb hvx1 hx29
 replace hr29:rep _ (sl p29 (o29+Int.toNat y20*4) 4) x30:=hr29
 refine Qd (Yn il22 rfl hv29 rfl hi29 hj29) ?_
 have ha31:=hr29
 refine Qd (Ze ta43 rfl (hS.bvM hM29) (Rep.len ha31)) ?_
 obtain ⟨r34,hr33,hz⟩:=Qb hz
 refine Qt (Zt (vs:=[.pointer (some ⟨b0_7,0,none⟩),.agg (sl p29 (o29+Int.toNat y20*4) 4).toArray]) (L:=[.box b0_7 cs13 90,.stk v15 9 1 xs16]) (R:=[]) (rv:=(fun M' u L' => ∃ c0 k0 u1 x1,u = .agg c0.toArray∧L'=[.box b0_7 k0 90,.stk u1 9 1 x1]∧rep M' c0 r34.1∧rep M' k0 r34.2.1∧skr M' u1 x1 r34.2.2∧sl k0 1993 1=[u1])) cb19 (Z6 rfl rfl) hS (hS.sel [0,1] (by decide) rfl) (fun hS=>clDo_ok hS hb13 hk18 hp19 ha31 hr33) ?_)
 rintro u33 M33 w32 L33 hx33 ⟨c0_33,k0_33,u1_33,x1_33,rfl,hL33,f33_0,f33_1,f33_2,f33_3⟩ hS
 replace hS:=hS _ hL33
 replace hvx1:=Qw hx33.1 hvx1
 refine Qt (Zi tz40 hS ?_)
 intro b36 w35 hb36 hS
 have zb36:rep M33 (Zr.zc GReply) (Zr.zd:GReply):=Zr.zr
 obtain ⟨d39,hd38,hz⟩:=Qb hz
 refine Qt (Q7 0 3 hS rfl zb36 rfl rfl f33_0 rfl rfl (Lf (rr zb36) f33_0) hd38 ?_)
 intro cs38 w37 hb38 ha38 hs38 hS
 refine Qf (Qa ?_)
 refine Qh <|Yw [.box b36 cs38 40] [] Z7 hS fun w40 hS hG41 hR42=>wy 0 rfl (Qe (evT (fun _=>undef) (.func 36)) hT27_1) (fun _=>hR42) <|wy 1 rfl (Qe (.pointer (some ⟨b0_7,0,none⟩)) hT27_6) (fun _=>hR42) <|wy 2 rfl (Qe (vx1) hT27_0) (fun _=>hR42) <|wy 3 rfl (Qe (.int .i64 y20) hT27_7) (fun _=>hR42) ?_
 obtain ⟨x44,hx43,hz⟩:=Qb hz
 obtain ⟨b43,o43,c43,p43,hv43,hi43,hj43,hM43,hr43⟩:=Yb hvx1 hx43
 replace hr43:rep _ (sl p43 (o43+Int.toNat y20*4) 4) x44:=hr43
 refine wy 4 rfl (Yn il22 rfl hv43 rfl hi43 hj43) (fun _=>hR42) ?_
 have ha45:=hr43
 refine Y8 5 rfl (Ze ta43 rfl (bvRM hM43) (Rep.len ha45)) hR42 ?_
 have ha46:=(rr hb38)
 refine Y8 6 rfl (Ze Ko rfl (Ys 0 rfl) (Rep.len ha46)) hR42 ?_
 obtain ⟨r50,hr49,hz⟩:=Qb hz
 refine w1 7 rfl (OW_fn rfl (Zt (vs:=[.pointer (some ⟨b0_7,0,none⟩),.agg (sl p43 (o43+Int.toNat y20*4) 4).toArray,.agg (sl cs38 (0) 3).toArray]) (L:=[.box b0_7 k0_33 90,.stk u1_33 9 1 x1_33]) (R:=[.box b36 cs38 40]) (rv:=(fun M' u L' => ∃ k0 u1 x1,u = .bool r50.1∧L'=[.box b0_7 k0 90,.stk u1 9 1 x1]∧rep M' k0 r50.2.1∧skr M' u1 x1 r50.2.2∧sl k0 1993 1=[u1])) cb36 (Jk rfl rfl rfl) hS (hS.sel [1,2,0] (by decide) rfl) (fun hS=>topGoodF_ok hS f33_1 f33_2 f33_3 ha45 ha46 hr49)) ?_)
 rintro u49 M49 w48 L49 hx49 ⟨k0_49,u1_49,x1_49,rfl,hL49,f49_0,f49_1,f49_2⟩ hS
 replace hS:=hS _ hL49
 replace hE:=Qc hE (hx28.trans (hx33.trans hx49))
 replace hF23:=Qc hF23 (hx28.trans (hx33.trans hx49))
 replace hG41:=Qc hG41 hx49
 refine Yp hS hG41 fun hR51=>wy 8 rfl (Ya rfl) (fun _=>hR51) ?_
 refine wd (Qa ?_)
 refine Qs rfl (fun hc52 => ?_) (fun hc52 => ?_)
 replace hz:=Qm hz hc52
 refine Qh <|Qi <|Qd (Qe (.pointer (some ⟨b0_7,0,none⟩)) hT27_6) <|Q1 2 rfl ?_
 refine Qf (Qa ?_)
 cases hz
 exact Q4 (Zf (Qq (Qq (Zf (Qq (R_t2 rfl rfl rfl ⟨_,M49,_,rfl,hE,(hS.sel (H':=[.box b0_7 k0_49 90,.stk u1_49 9 1 x1_49]) [0,1] (by decide) rfl),b0_7,k0_49,u1_49,x1_49,rfl,rfl,f49_0,f49_1,f49_2⟩))))))
 replace hz:=Qn hz hc52
 refine Qu (Q8 ?_)
 refine (Qa ?_)
 refine Qi <|Qd (Qe (.int .i64 y20) hT27_7) <|Qd (Z2 rfl rfl) <|Qd (Qk (.int .i64 (IntKind.wrap .i64 (y20+1))) rfl) ?_
 refine Qf (Qa ?_)
 exact ⟨M49,k0_49,r50.2.1,u1_49,x1_49,r50.2.2,(IntKind.wrap .i64 (y20+1)),hF23,(hS.sel (H':=[.box b0_7 k0_49 90,.stk u1_49 9 1 x1_49]) [0,1] (by decide) rfl),f49_0,f49_1,f49_2,hT27_0,hT27_1,hT27_6,rfl,(by rw [← hrec21];exact hz)⟩
def topGoodD (fu:Nat) (x1:List GAct):Option Bool :=
 (playGD fu x1).bind fun r4 =>
 some r4.2.1
set_option maxRecDepth 100000 in
set_option maxHeartbeats 4000000 in
theorem topGood_ok {M:Mm} {w:World} {vx1:Value} {x1:List GAct} {fu:Nat} {r:Bool} (hA:Agree M w) (hvx1:repL M vx1 x1) (hz:topGoodD fu x1=some r) :
    Calls Try.prog 11 #[vx1] w (GivesV w (.bool r)):=by
 refine Zh Try.func11 rfl 11 rfl rfl (by kernel_rfl) fun T hT => ?_
 have hT_0:T 0=vx1:=hT 0
 clear hT
 have hE:=Qg w.heap.size noX M
 have hS:St w noX M [] w:=Zs hA
 rw [topGoodD] at hz
 refine Qh <|Qi <|Qd (Qk (.bool false) rfl) ?_
 refine Qf (Qa ?_)
 refine Qh <|Qi <|Qd (Qe (vx1) hT_0) ?_
 obtain ⟨r4,hr3,hz⟩:=Qb hz
 refine Qt (Zt (vs:=[vx1,evT (fun _=>undef) (.func 36)]) (L:=[]) (R:=[]) (rv:=(fun M' u L' => ∃ b0 k0 uP6 xP6,u = .tuple #[.pointer (some ⟨b0,0,none⟩),.bool r4.2.1]∧L'=[.box b0 k0 90,.stk uP6 9 1 xP6]∧rep M' k0 r4.1∧skr M' uP6 xP6 r4.2.2∧sl k0 1993 1=[uP6])) cb15 (Z6 rfl rfl) hS (hS.sel [] (by decide) rfl) (fun hS=>playG_ok hS.agree hvx1 hr3) ?_)
 rintro u3 M3 w2 L3 hx3 ⟨b0_3,k0_3,uP6_3,xP6_3,rfl,hL3,f3_0,f3_1,f3_2⟩ hS
 replace hS:=hS _ hL3
 refine Qd (Qe (.tuple #[.pointer (some ⟨b0_3,0,none⟩),.bool r4.2.1]) rfl) <|Qd (Zc (v := .pointer (some ⟨b0_3,0,none⟩)) rfl rfl) <|Qd (Zc (v := .bool r4.2.1) rfl rfl) <|Q1 2 rfl ?_
 refine Qf (Qa ?_)
 refine Qh <|Qi <|Q1 2 rfl ?_
 refine Qf (Qa ?_)
 cases hz
 exact Q4 (Yi rfl rfl ⟨rfl,(Qo (Qo hS)).kept⟩)
end Go.Proofs.Yteilffoclpgijaa
namespace Go.Proofs.Yteilffoclpgijaa
open Go.RowKit
theorem i64_or_nat (a b:Nat) (ha:a<4611686018427387904) (hb:b<4611686018427387904) (h:a ||| b<9223372036854775808):bits .or .i64 (a:Int) (b:Int)=((a ||| b:Nat):Int):=by
  show IntKind.i64.wrap ((BitVec.ofInt 64 (a:Int) ||| BitVec.ofInt 64 (b:Int)).toNat:Int)=_
  rw [BitVec.ofInt_natCast,BitVec.ofInt_natCast,BitVec.toNat_or,BitVec.toNat_ofNat,BitVec.toNat_ofNat,Nat.mod_eq_of_lt (by omega),Nat.mod_eq_of_lt (by omega)]
  exact IntWalk.i64_in _ (by omega)
theorem or_bytes (a b:Nat) (ha:a<4611686018427387904 / 256) (hb:b<256):bits .or .i64 ((a:Int)*256) (b:Int)=(a:Int)*256+b:=by
  have h:=Nat.two_pow_add_eq_or_of_lt (i:=8) (b:=b) (by omega) a
  have e:((a*256:Nat):Int)=(a:Int)*256:=by omega
  rw [← e,i64_or_nat _ _ (by omega) (by omega) (by rw [Nat.mul_comm];rw [show (256:Nat)=2 ^ 8 from rfl,← h];omega)]
  rw [Nat.mul_comm,show (256:Nat)=2 ^ 8 from rfl,← h]
  omega
end Go.Proofs.Yteilffoclpgijaa
namespace Go.Proofs.Yteilffoclpgijaa
open Go.RowKit
def RTexts (S:Nat→Prop) (w:World) (v:Value) (l:List ByteArray):Prop:=RRow S w v 1 16 l.length (l.map Value.string)
def recN (a b:UInt8):Nat:=a.toNat*256+b.toNat
def readL (l:List UInt8):List ByteArray × Nat :=
  match l with
  | a::b::r =>
    if 1≤recN a b∧recN a b≤400∧recN a b≤r.length then
      (⟨(r.take (recN a b)).toArray⟩::(readL (r.drop (recN a b))).1,2+recN a b+(readL (r.drop (recN a b))).2)
    else ([],0)
  | _=>([],0)
termination_by l.length
decreasing_by all_goals (simp only [List.length_cons,List.length_drop];omega)
theorem readL_stop {a b:UInt8} {r:List UInt8} (h : ¬ (1≤recN a b∧recN a b≤400∧recN a b≤r.length)):readL (a::b::r)=([],0):=by
  rw [readL,if_neg h]
theorem readL_go {a b:UInt8} {r:List UInt8} (h:1≤recN a b∧recN a b≤400∧recN a b≤r.length) :
    readL (a::b::r)=(⟨(r.take (recN a b)).toArray⟩::(readL (r.drop (recN a b))).1,2+recN a b+(readL (r.drop (recN a b))).2):=by
  rw [readL,if_pos h]
theorem readL_short {l:List UInt8} (h:l.length<2):readL l=([],0):=by
  match l,h with
  | [],_=>rw [readL];intro a b r h;cases h
  | [x],_=>rw [readL];intro a b r h;cases h
def ReadTo (log:ByteArray) (acc:List ByteArray) (k:Nat):Prop :=
  (readL log.data.toList).1=acc++(readL (log.data.toList.drop k)).1∧(readL log.data.toList).2=k+(readL (log.data.toList.drop k)).2∧acc.length≤k
theorem readTo_zero (log:ByteArray):ReadTo log [] 0:=by simp [ReadTo]
theorem drop_two {log:ByteArray} {k:Nat} (h:k+2≤log.size):log.data.toList.drop k=log[k]::log[k+1]::log.data.toList.drop (k+2):=by
  have hl:log.data.toList.length=log.size:=rfl
  rw [List.drop_eq_getElem_cons (by omega),List.drop_eq_getElem_cons (by omega)]
  rfl
theorem readTo_next {log:ByteArray} {acc:List ByteArray} {k:Nat} (h:ReadTo log acc k) (hk:k+2≤log.size)
    (hn:1≤recN log[k] log[k+1]∧recN log[k] log[k+1]≤400∧recN log[k] log[k+1]≤log.size-k-2) :
    ReadTo log (acc++[log.extract (k+2) (k+2+recN log[k] log[k+1])]) (k+(2+recN log[k] log[k+1])):=by
  obtain ⟨h1,h2,h3⟩:=h
  have hl:log.data.toList.length=log.size:=rfl
  rw [drop_two hk,readL_go (by rw [List.length_drop,hl];omega),List.drop_drop] at h1 h2
  have he:log.extract (k+2) (k+2+recN log[k] log[k+1])=⟨(List.take (recN log[k] log[k+1]) (List.drop (k+2) log.data.toList)).toArray⟩:=by
    apply str_ext
    rw [Go.Lib.extract_data]
    simp
  have e2:k+2+recN log[k] log[k+1]=k+(2+recN log[k] log[k+1]):=by omega
  rw [e2] at h1 h2
  refine ⟨?_,by omega,by simp;omega⟩
  rw [h1,← e2,he]
  simp
theorem readTo_end {log:ByteArray} {acc:List ByteArray} {k:Nat} (h:ReadTo log acc k) (he:readL (log.data.toList.drop k)=([],0)):readL log.data.toList=(acc,k):=by
  obtain ⟨h1,h2,_⟩:=h
  rw [he] at h1 h2
  simp at h1 h2
  rw [← h1,← h2]
end Go.Proofs.Yteilffoclpgijaa
namespace Go.Proofs.Yteilffoclpgijaa
open Go.RowKit
theorem RTexts.shape {S:Nat→Prop} {w:World} {v:Value} {l:List ByteArray} (h:RTexts S w v l) : ∃ a cap,v = .slice a l.length cap∧l.length≤17592186043904:=by
  obtain ⟨a,cap,he,h1,h2,h3,h4,h5⟩:=h
  exact ⟨a,cap,he,by omega⟩
theorem RTexts.later {S:Nat→Prop} {w w':World} {v:Value} {l:List ByteArray} (h:RTexts S w v l) (hb:Below w.heap.size w w'):RTexts S w' v l:=RRow.later h hb
theorem RTexts.at {S:Nat→Prop} {w:World} {a:Option Addr} {n cap:Nat} {l:List ByteArray} (h:RTexts S w (.slice a n cap) l) {k:Nat} {x:ByteArray} (hx:l[k]? = some x) :
    ∃ b off,a=some ⟨b,off,none⟩∧S b∧b<w.heap.size∧w.cell? ⟨b,off+k,none⟩=some (.string x):=by
  obtain ⟨a',cap',he,h1,h2,h3,h4,h5⟩:=h
  cases he
  obtain ⟨b,off,ha,hb,hc⟩:=h5 k (.string x) (by simp [hx])
  exact ⟨b,off,ha,hb,cell_lt hc,hc⟩
end Go.Proofs.Yteilffoclpgijaa
namespace Go.Proofs.Yteilffoclpgijaa
open Go.RowKit
open Rep (rep)
theorem number_step (z:Int) (n:Nat) (l:List Byt) (j:Nat) (hj:j<6) (hl:l.length≤1000000) (h1 : -1099511627776≤z) (h2:z≤1099511627776) :
    number_l1 z (n+1) l (j:Int)=number_l1 z n (l++[⟨(z+140737488355328) / ((256 ^ j:Nat):Int)%256⟩]) ((j:Int)-1):=by
  rw [number_l1]
  have hw:IntKind.wrap .i64 (z+140737488355328)=z+140737488355328:=wr64 (by omega) (by omega)
  have h8:IntKind.wrap .u64 (8*IntKind.wrap .u64 (j:Int))=8*(j:Int):=by rw [wrU64 (x:=(j:Int)) (by omega) (by omega),wrU64 (by omega) (by omega)]
  have hs:IntKind.wrap .i64 ((j:Int)-1)=(j:Int)-1:=wr64 (by omega) (by omega)
  have hb:IntKind.bits .i64=64:=rfl
  rw [bif_t (dec_t (by omega)),hw,h8,hs,hb,nonneg_ok (by omega),some_bind,wr8,app_ok (by simp [Rep.bytes];omega),some_bind]
  have ht:Int.toNat (8*(j:Int))=8*j:=by omega
  have hm:min (8*j) 64=8*j:=by omega
  have hp:((2:Int) ^ (8*j))=((256 ^ j:Nat):Int):=by rw [Int.pow_mul];norm_cast
  rw [ht,hm,hp,Int.fdiv_eq_ediv_of_nonneg _ (Int.natCast_nonneg _)]
theorem numberD_eq {fu:Nat} {z:Int} {l:List Byt} (hf:7≤fu) (hl:l.length≤100000) (h1 : -1099511627776≤z) (h2:z≤1099511627776):numberD fu l z=some (l++(sixZ z).map Byt.mk):=by
  obtain ⟨n,rfl⟩ : ∃ n,fu=n+7:=⟨fu-7,by omega⟩
  unfold numberD
  have e5:=number_step z (n+6) l 5 (by omega) (by omega) h1 h2
  have e4:=fun m=>number_step z (n+5) m 4 (by omega)
  have e3:=fun m=>number_step z (n+4) m 3 (by omega)
  have e2:=fun m=>number_step z (n+3) m 2 (by omega)
  have e1:=fun m=>number_step z (n+2) m 1 (by omega)
  have e0:=fun m=>number_step z (n+1) m 0 (by omega)
  have q5:((5:Nat):Int)=5:=rfl
  have q4:((4:Nat):Int)=4:=rfl
  have q3:((3:Nat):Int)=3:=rfl
  have q2:((2:Nat):Int)=2:=rfl
  have q1:((1:Nat):Int)=1:=rfl
  have q0:((0:Nat):Int)=0:=rfl
  rw [q5] at e5
  simp only [q4,q3,q2,q1,q0] at e4 e3 e2 e1 e0
  rw [e5,show (5:Int)-1=4 from rfl,e4 _ (by simp;omega) h1 h2,show (4:Int)-1=3 from rfl,e3 _ (by simp;omega) h1 h2,show (3:Int)-1=2 from rfl,e2 _ (by simp;omega) h1 h2,show (2:Int)-1=1 from rfl,e1 _ (by simp;omega) h1 h2,show (1:Int)-1=0 from rfl,e0 _ (by simp;omega) h1 h2]
  rw [number_l1,bif_f (dec_f (by omega))]
  simp only [List.append_assoc,List.cons_append,List.nil_append,sixZ,List.map_cons,List.map_nil]
  rw [show ((256 ^ 5:Nat):Int)=1099511627776 from rfl,show ((256 ^ 4:Nat):Int)=4294967296 from rfl,show ((256 ^ 3:Nat):Int)=16777216 from rfl,show ((256 ^ 2:Nat):Int)=65536 from rfl,show ((256 ^ 1:Nat):Int)=256 from rfl,Int.ediv_one]
structure FOk (f:GFrame):Prop where
  ops:f.ops.length≤4
  op : ∀ o∈f.ops,0≤o.kind∧o.kind<256∧0≤o.key∧o.key<256 ∧ -1099511627776≤o.n∧o.n≤1099511627776
  deps:f.deps.length≤32
  dep : ∀ n∈f.deps,0≤n∧n<32
  at_:f.at_.length≤4
  ats : ∀ n∈f.at_,0≤n∧n<4
  vals:f.vals.length=f.at_.length
  val : ∀ v∈f.vals,-1099511627776≤v∧v≤1099511627776
  head:0≤f.kind∧f.kind<256∧0≤f.node∧f.node<256∧0≤f.id∧f.id<256
def opBytes (o:GOp):List Int:=o.kind::o.key::sixZ o.n
def valBytes (p:Int × Int):List Int:=p.1::sixZ p.2
def encZ (f:GFrame):List Int :=
  [f.kind,f.node,f.id,f.ops.length]++(f.ops.flatMap opBytes++([(f.deps.length:Int)]++(f.deps++([(f.at_.length:Int)]++(f.at_.zip f.vals).flatMap valBytes))))
theorem sixZ_len (z:Int):(sixZ z).length=6:=rfl
theorem byts (l:List Int):(l.map Byt.mk).map Byt.val=l:=by induction l with | nil=>rfl | cons x t ih=>rw [List.map_cons,List.map_cons,ih]
theorem enc_l3 (f:GFrame) (hf:FOk f) (fu:Nat) (hfu:7≤fu) : ∀ (ra rv:List Int) (k n:Nat) (l:List Byt),f.at_.drop k=ra→f.vals.drop k=rv→ra.length<n→l.length+7*ra.length≤90000→k≤f.at_.length →
    encode_l3 fu f n l (k:Int)=some (strOfNums (l.map Byt.val++(ra.zip rv).flatMap valBytes),0):=by
  intro ra
  induction ra with
  | nil =>
    intro rv k n l ha hv hn hl hk
    obtain ⟨n,rfl⟩ : ∃ m,n=m+1:=⟨n-1,by simp at hn;omega⟩
    have:f.at_.length≤k:=by have:=congrArg List.length ha;simp at this;omega
    rw [encode_l3,bif_f (dec_f (by omega))]
    simp
  | cons a t ih =>
    intro rv k n l ha hv hn hl hk
    obtain ⟨n,rfl⟩ : ∃ m,n=m+1:=⟨n-1,by simp at hn;omega⟩
    have hk2:k<f.at_.length:=by have:=congrArg List.length ha;simp at this;omega
    have hga:f.at_[k]? = some a:=by have:=congrArg (fun x:List Int=>x[0]?) ha;simpa using this
    cases rv with
    | nil=>have:=congrArg List.length hv;simp at this;have:=hf.vals;omega
    | cons v u =>
      have hgv:f.vals[k]? = some v:=by have:=congrArg (fun x:List Int=>x[0]?) hv;simpa using this
      have ha2:f.at_.drop (k+1)=t:=by rw [← List.tail_drop,ha];rfl
      have hv2:f.vals.drop (k+1)=u:=by rw [← List.tail_drop,hv];rfl
      have hv3:=hf.val v (List.mem_of_getElem? hgv)
      have ha3:=hf.ats a (List.mem_of_getElem? hga)
      have h4:=hf.at_
      simp only [List.length_cons] at hl hn
      rw [encode_l3,bif_t (dec_t (by omega)),idx_nat,hga,some_bind,idx_nat,hgv,some_bind,app_ok (by simp [Rep.bytes];omega),some_bind,numberD_eq hfu (by simp;omega) hv3.1 hv3.2,some_bind,
        wr64 (by omega) (by omega),show (k:Int)+1=((k+1:Nat):Int) from rfl,ih u (k+1) n _ ha2 hv2 (by omega) (by simp [sixZ_len];omega) (by omega)]
      congr 3
      simp only [List.map_append,byts,wr8,List.zip_cons_cons,List.flatMap_cons,valBytes,List.map_cons,List.map_nil,List.append_assoc,List.cons_append,List.nil_append]
      rw [Int.emod_eq_of_lt ha3.1 (by omega)]
theorem enc_l2 (f:GFrame) (hf:FOk f) (fu:Nat) (hfu:40≤fu) : ∀ (ra:List Int) (k n:Nat) (l:List Byt),f.deps.drop k=ra→ra.length<n→l.length+ra.length≤80000→k≤f.deps.length →
    encode_l2 fu f n l (k:Int)=some (strOfNums (l.map Byt.val++(ra++([(f.at_.length:Int)]++(f.at_.zip f.vals).flatMap valBytes))),0):=by
  intro ra
  induction ra with
  | nil =>
    intro k n l ha hn hl hk
    obtain ⟨n,rfl⟩ : ∃ m,n=m+1:=⟨n-1,by simp at hn;omega⟩
    have:f.deps.length≤k:=by have:=congrArg List.length ha;simp at this;omega
    have h4:=hf.at_
    simp only [List.length_nil] at hl
    rw [encode_l2,bif_f (dec_f (by omega)),app_ok (by simp [Rep.bytes];omega),some_bind,show (0:Int)=((0:Nat):Int) from rfl,enc_l3 f hf fu (by omega) f.at_ f.vals 0 fu _ rfl rfl (by omega) (by simp;omega) (by omega)]
    congr 3
    simp only [List.map_append,wr8,List.map_cons,List.map_nil,List.append_assoc,List.nil_append]
    rw [Int.emod_eq_of_lt (by omega) (by omega)]
  | cons a t ih =>
    intro k n l ha hn hl hk
    obtain ⟨n,rfl⟩ : ∃ m,n=m+1:=⟨n-1,by simp at hn;omega⟩
    have hk2:k<f.deps.length:=by have:=congrArg List.length ha;simp at this;omega
    have hga:f.deps[k]? = some a:=by have:=congrArg (fun x:List Int=>x[0]?) ha;simpa using this
    have ha2:f.deps.drop (k+1)=t:=by rw [← List.tail_drop,ha];rfl
    have ha3:=hf.dep a (List.mem_of_getElem? hga)
    have h32:=hf.deps
    simp only [List.length_cons] at hl hn
    rw [encode_l2,bif_t (dec_t (by omega)),idx_nat,hga,some_bind,app_ok (by simp [Rep.bytes];omega),some_bind,wr64 (by omega) (by omega),show (k:Int)+1=((k+1:Nat):Int) from rfl,ih (k+1) n _ ha2 (by omega) (by simp;omega) (by omega)]
    congr 3
    simp only [List.map_append,wr8,List.map_cons,List.map_nil,List.append_assoc,List.cons_append,List.nil_append]
    rw [Int.emod_eq_of_lt ha3.1 (by omega)]
theorem enc_l1 (f:GFrame) (hf:FOk f) (fu:Nat) (hfu:40≤fu) : ∀ (ra:List GOp) (k n:Nat) (l:List Byt),f.ops.drop k=ra→ra.length<n→l.length+8*ra.length≤70000→k≤f.ops.length →
    encode_l1 fu f n l (k:Int)=some (strOfNums (l.map Byt.val++(ra.flatMap opBytes++([(f.deps.length:Int)]++(f.deps++([(f.at_.length:Int)]++(f.at_.zip f.vals).flatMap valBytes))))),0):=by
  intro ra
  induction ra with
  | nil =>
    intro k n l ha hn hl hk
    obtain ⟨n,rfl⟩ : ∃ m,n=m+1:=⟨n-1,by simp at hn;omega⟩
    have:f.ops.length≤k:=by have:=congrArg List.length ha;simp at this;omega
    have h4:=hf.deps
    simp only [List.length_nil] at hl
    rw [encode_l1,bif_f (dec_f (by omega)),app_ok (by simp [Rep.bytes];omega),some_bind,show (0:Int)=((0:Nat):Int) from rfl,enc_l2 f hf fu hfu f.deps 0 fu _ rfl (by omega) (by simp;omega) (by omega)]
    congr 3
    simp only [List.map_append,wr8,List.map_cons,List.map_nil,List.append_assoc,List.nil_append,List.flatMap_nil]
    rw [Int.emod_eq_of_lt (by omega) (by omega)]
  | cons a t ih =>
    intro k n l ha hn hl hk
    obtain ⟨n,rfl⟩ : ∃ m,n=m+1:=⟨n-1,by simp at hn;omega⟩
    have hk2:k<f.ops.length:=by have:=congrArg List.length ha;simp at this;omega
    have hga:f.ops[k]? = some a:=by have:=congrArg (fun x:List GOp=>x[0]?) ha;simpa using this
    have ha2:f.ops.drop (k+1)=t:=by rw [← List.tail_drop,ha];rfl
    obtain ⟨b1,b2,b3,b4,b5,b6⟩:=hf.op a (List.mem_of_getElem? hga)
    have h4:=hf.ops
    simp only [List.length_cons] at hl hn
    rw [encode_l1,bif_t (dec_t (by omega)),idx_nat,hga,some_bind,some_bind,app_ok (by simp [Rep.bytes];omega),some_bind,numberD_eq (by omega) (by simp;omega) b5 b6,some_bind,
      wr64 (by omega) (by omega),show (k:Int)+1=((k+1:Nat):Int) from rfl,ih (k+1) n _ ha2 (by omega) (by simp [sixZ_len];omega) (by omega)]
    congr 3
    simp only [List.map_append,byts,wr8,List.flatMap_cons,opBytes,List.map_cons,List.map_nil,List.append_assoc,List.cons_append,List.nil_append]
    rw [Int.emod_eq_of_lt b1 b2,Int.emod_eq_of_lt b3 b4]
theorem encodeD_ok {f:GFrame} (hf:FOk f) (h0:frameZ f=0) {fu:Nat} (hfu:40≤fu):encodeD fu f=some (strOfNums (encZ f),0):=by
  unfold encodeD
  have h4:=hf.ops
  obtain ⟨b1,b2,b3,b4,b5,b6⟩:=hf.head
  rw [some_bind,h0,bif_f (by decide),show (0:Int)=((0:Nat):Int) from rfl,enc_l1 f hf fu hfu f.ops 0 fu _ rfl (by omega) (by simp;omega) (by omega)]
  congr 3
  simp only [encZ,wr8,List.map_cons,List.map_nil]
  rw [Int.emod_eq_of_lt b1 b2,Int.emod_eq_of_lt b3 b4,Int.emod_eq_of_lt b5 b6,Int.emod_eq_of_lt (by omega) (by omega)]
theorem encodeD_no {f:GFrame} (h0:frameZ f≠0) {fu:Nat}:encodeD fu f=some (strOfNums [],frameZ f):=by
  unfold encodeD
  rw [some_bind,bif_t (by simpa using h0)]
  rfl
end Go.Proofs.Yteilffoclpgijaa
namespace Go.Proofs.Yteilffoclpgijaa
open Go.RowKit
open Rep (rep)
theorem rising_ge {l:List Int} (h:risingZ l=true) : ∀ i,i<l.length→(i:Int)≤l.getD i 0∧l.getD i 0<32:=by
  unfold risingZ at h
  rw [allTo_iff] at h
  intro i
  induction i with
  | zero =>
    intro hi
    have:=h 0 hi
    unfold riseAt at this
    simp only [Bool.and_eq_true,decide_eq_true_eq] at this
    exact ⟨by have:=this.1.1;simpa using this,this.1.2⟩
  | succ i ih =>
    intro hi
    have h1:=ih (by omega)
    have:=h (i+1) hi
    unfold riseAt at this
    simp only [Bool.and_eq_true,decide_eq_true_eq,Bool.or_eq_true,beq_iff_eq,Nat.add_sub_cancel] at this
    refine ⟨?_,this.1.2⟩
    rcases this.2 with h2 | h2
    · omega
    · push_cast
      omega
theorem rising_len {l:List Int} (h:risingZ l=true):l.length≤32:=by
  rcases Nat.lt_or_ge 32 l.length with h1 | h1
  · have:=rising_ge h 32 h1
    omega
  · exact h1
theorem rising_mem {l:List Int} (h:risingZ l=true) : ∀ n∈l,0≤n∧n<32:=by
  intro n hn
  obtain ⟨i,hi,rfl⟩:=List.getElem_of_mem hn
  have:=rising_ge h i hi
  rw [List.getD_eq_getElem?_getD,List.getElem?_eq_getElem hi] at this
  simp only [Option.getD_some] at this
  omega
theorem goodOps_len {l:List GOp} (h:goodOpsZ l=true):0<l.length∧l.length≤4:=by
  unfold goodOpsZ at h
  simp only [Bool.and_eq_true,decide_eq_true_eq] at h
  omega
theorem goodOps_mem {l:List GOp} (h:goodOpsZ l=true) : ∀ o∈l,1≤o.kind∧o.kind≤3∧0≤o.key∧o.key<8 ∧ -1099511627776≤o.n∧o.n≤1099511627776:=by
  intro o ho
  unfold goodOpsZ at h
  simp only [Bool.and_eq_true] at h
  have h1:=(allTo_iff _ _).1 h.1
  obtain ⟨i,hi,rfl⟩:=List.getElem_of_mem ho
  have:=h1 i hi
  unfold opAt at this
  rw [List.getD_eq_getElem?_getD,List.getElem?_eq_getElem hi] at this
  simp only [Option.getD_some,Bool.and_eq_true] at this
  have:=this.1
  unfold goodOp at this
  simp only [decide_eq_true_eq] at this
  omega
theorem FOk_of {f:GFrame} (h:frameZ f=0):FOk f:=by
  unfold frameZ at h
  split at h
  · cases h
  · rename_i hk
    split at h
    · cases h
    · rename_i hn
      split at h
      · rename_i hp
        simp only [Bool.and_eq_true] at hp
        obtain ⟨h1,h2,h3⟩:=hp
        have ho:f.ops.length≤4 ∧ ∀ o∈f.ops,0≤o.kind∧o.kind<256∧0≤o.key∧o.key<256 ∧ -1099511627776≤o.n∧o.n≤1099511627776:=by
          unfold opsPart at h1
          split at h1
          · refine ⟨(goodOps_len h1).2,fun o ho => ?_⟩
            have:=goodOps_mem h1 o ho
            omega
          · have:f.ops=[]:=List.length_eq_zero_iff.1 (by simpa using h1)
            rw [this]
            simp
        have hd:f.deps.length≤32 ∧ ∀ n∈f.deps,0≤n∧n<32:=by
          unfold depsPart at h2
          split at h2
          · simp only [Bool.and_eq_true] at h2
            exact ⟨rising_len h2.1,rising_mem h2.1⟩
          · have:f.deps=[]:=List.length_eq_zero_iff.1 (by simpa using h2)
            rw [this]
            simp
        unfold atPart at h3
        simp only [Bool.and_eq_true,beq_iff_eq] at h3
        obtain ⟨_,h4,h5,h6⟩:=h3
        rw [allTo_iff] at h5 h6
        have ha : ∀ i,i<f.at_.length→(i:Int)≤f.at_.getD i 0∧f.at_.getD i 0<4:=by
          intro i
          induction i with
          | zero =>
            intro hi
            have:=h5 0 hi
            unfold atAt at this
            simp only [Bool.and_eq_true,decide_eq_true_eq] at this
            exact ⟨by have:=this.1.1;simpa using this,this.1.2⟩
          | succ i ih =>
            intro hi
            have e1:=ih (by omega)
            have:=h5 (i+1) hi
            unfold atAt at this
            simp only [Bool.and_eq_true,decide_eq_true_eq,Bool.or_eq_true,beq_iff_eq,Nat.add_sub_cancel] at this
            refine ⟨?_,this.1.2⟩
            rcases this.2 with e2 | e2
            · omega
            · push_cast
              omega
        have hl:f.at_.length≤4:=by
          rcases Nat.lt_or_ge 4 f.at_.length with e1 | e1
          · have:=ha 4 e1;omega
          · exact e1
        refine ⟨ho.1,ho.2,hd.1,hd.2,hl,fun n hn => ?_,h4.symm,fun v hv => ?_,by omega⟩
        · obtain ⟨i,hi,rfl⟩:=List.getElem_of_mem hn
          have:=ha i hi
          rw [List.getD_eq_getElem?_getD,List.getElem?_eq_getElem hi] at this
          simp only [Option.getD_some] at this
          omega
        · obtain ⟨i,hi,rfl⟩:=List.getElem_of_mem hv
          have:=h6 i hi
          unfold valAt at this
          rw [List.getD_eq_getElem?_getD,List.getElem?_eq_getElem hi] at this
          simpa using this
      · cases h
def encP (f:GFrame):ByteArray × Int:=if frameZ f=0 then (strOfNums (encZ f),0) else (strOfNums [],frameZ f)
theorem encodeD_eq (f:GFrame) {fu:Nat} (hfu:40≤fu):encodeD fu f=some (encP f):=by
  unfold encP
  by_cases h:frameZ f=0
  · rw [if_pos h,encodeD_ok (FOk_of h) h hfu]
  · rw [if_neg h,encodeD_no h]
end Go.Proofs.Yteilffoclpgijaa
namespace Go.Proofs.Yteilffoclpgijaa
open Go.RowKit
open Rep (rep)
def byL (s:ByteArray):List Int:=s.data.toList.map fun b=>(b.toNat:Int)
theorem byL_len (s:ByteArray):(byL s).length=s.size:=by
  unfold byL
  rw [List.length_map]
  rfl
theorem byL_range {s:ByteArray} {c:Int} (h:c∈byL s):0≤c∧c<256:=by
  unfold byL at h
  obtain ⟨b,_,rfl⟩:=List.mem_map.1 h
  have:=b.toNat_lt
  omega
theorem byL_idx (s:ByteArray) (k:Nat):idxS s (k:Int)=(byL s)[k]? := by
  unfold idxS byL
  rw [if_pos (Int.natCast_nonneg k),List.getElem?_map]
  have e:((k:Int)).toNat=k:=rfl
  rw [e]
  by_cases hk:k<s.size
  · have h2:k<s.data.toList.length:=hk
    rw [List.getElem?_eq_getElem h2]
    have:s[k]? = some s[k]:=getElem?_pos s k hk
    rw [this]
    rfl
  · have h2:s.data.toList.length≤k:=by have:s.data.toList.length=s.size:=rfl;omega
    rw [List.getElem?_eq_none h2]
    have:s[k]? = none:=getElem?_neg s k hk
    rw [this]
theorem byL_cut {s:ByteArray} {k:Nat} (hk:k≤s.size) : ∃ s',cutB s (some (k:Int)) none=some s'∧byL s'=(byL s).drop k:=by
  unfold cutB cutOk
  simp only [Option.getD_some,Option.getD_none]
  rw [if_pos (by omega)]
  refine ⟨_,rfl,?_⟩
  unfold byL
  rw [Go.Lib.extract_data,← List.map_drop]
  congr 1
  have e:((s.size:Int)).toNat=s.size:=rfl
  have e2:((k:Int)).toNat=k:=rfl
  simp only [e,e2]
  refine List.take_of_length_le ?_
  have:s.data.toList.length=s.size:=rfl
  rw [List.length_drop]
  omega
theorem byL_empty {s:ByteArray}:(s.toList==(⟨#[]⟩:ByteArray).toList)=(byL s).isEmpty:=by
  rw [ByteArray.toList_eq,ByteArray.toList_eq,Bool.eq_iff_iff]
  unfold byL
  simp
def sixV (a b c d e f:Int):Int:=((((a*256+b)*256+c)*256+d)*256+e)*256+f-140737488355328
def pOps:Nat→List Int→Option (List GOp × List Int)
  | 0,l=>some ([],l)
  | n+1,k::y::a::b::c::d::e::f::t=>(pOps n t).map fun p=>(⟨k,y,sixV a b c d e f⟩::p.1,p.2)
  | _+1,_=>none
def pDeps (n:Nat) (l:List Int):Option (List Int × List Int):=if n≤l.length then some (l.take n,l.drop n) else none
def pAts:Nat→List Int→Option (List Int × List Int × List Int)
  | 0,l=>some ([],[],l)
  | n+1,k::a::b::c::d::e::f::t=>(pAts n t).map fun p=>(k::p.1,sixV a b c d e f::p.2.1,p.2.2)
  | _+1,_=>none
def pTail (kd nd id:Int) (os:List GOp) (ds:List Int):List Int→Option (GFrame × List Int)
  | k::u=>(pAts k.toNat u).map fun z=>(⟨kd,nd,id,os,ds,z.1,z.2.1⟩,z.2.2)
  | []=>none
def pRest (kd nd id:Int) (os:List GOp):List Int→Option (GFrame × List Int)
  | m::r=>(pDeps m.toNat r).bind fun q=>pTail kd nd id os q.1 q.2
  | []=>none
def parseR:List Int→Option (GFrame × List Int)
  | kd::nd::id::no::t=>(pOps no.toNat t).bind fun p=>pRest kd nd id p.1 p.2
  | _=>none
def noF:GFrame:=⟨0,0,0,[],[],[],[]⟩
def finZ:Option (GFrame × List Int)→GFrame × Int
  | some (f,[])=>bif frameZ f==0 then (f,0) else (noF,1)
  | _=>(noF,1)
def decZ (l:List Int):GFrame × Int:=finZ (parseR l)
structure Rd8 (x:GReader) (l:List Int):Prop where
  s:byL x.s=l
  ok:x.bad=false
  small:x.s.size≤140737488351232
def Bad8 (x:GReader):Prop:=x.bad=true∧x.s.size≤140737488351232
theorem rByte_go {fu:Nat} {x:GReader} {c:Int} {t:List Int} (h:Rd8 x (c::t)) : ∃ x',rByteD fu x=some (c,x')∧Rd8 x' t:=by
  have hlen:=byL_len x.s
  rw [h.s,List.length_cons] at hlen
  obtain ⟨s',h1,h2⟩:=byL_cut (s:=x.s) (k:=1) (by omega)
  have h1:cutB x.s (some 1) none=some s':=h1
  have hs':=byL_len s'
  rw [h2,List.length_drop,byL_len] at hs'
  have hsm:=h.small
  have hi:idxS x.s 0=some c:=by
    have:=byL_idx x.s 0
    rw [h.s] at this
    exact this
  have hc:=byL_range (s:=x.s) (c:=c) (by rw [h.s];exact List.mem_cons_self)
  refine ⟨{ x with s:=s' },?_,⟨by rw [h2,h.s];rfl,h.ok,by show s'.size≤_;omega⟩⟩
  unfold rByteD
  rw [byL_empty,h.s,bif_f (by rfl),hi,some_bind,h1,some_bind,chkS_ok (by omega),some_bind,some_bind,wr64 (by omega) (by omega)]
theorem rByte_end {fu:Nat} {x:GReader} (h:Rd8 x []) : ∃ x',rByteD fu x=some (0,x')∧Bad8 x':=by
  refine ⟨{ x with bad:=true },?_,rfl,h.small⟩
  unfold rByteD
  rw [byL_empty,h.s,bif_t (by rfl),some_bind]
theorem rByte_bad {fu:Nat} {x:GReader} (h:Bad8 x) : ∃ v x',rByteD fu x=some (v,x')∧Bad8 x':=by
  cases hl:byL x.s with
  | nil =>
    refine ⟨0,{ x with bad:=true },?_,rfl,h.2⟩
    unfold rByteD
    rw [byL_empty,hl,bif_t (by rfl),some_bind]
  | cons c t =>
    have hlen:=byL_len x.s
    rw [hl,List.length_cons] at hlen
    obtain ⟨s',h1,h2⟩:=byL_cut (s:=x.s) (k:=1) (by omega)
    have h1:cutB x.s (some 1) none=some s':=h1
    have hs':=byL_len s'
    rw [h2,List.length_drop,byL_len] at hs'
    have hsm:=h.2
    have hi:idxS x.s 0=some c:=by
      have:=byL_idx x.s 0
      rw [hl] at this
      exact this
    refine ⟨IntKind.wrap .i64 c,{ x with s:=s' },?_,h.1,by show s'.size≤_;omega⟩
    unfold rByteD
    rw [byL_empty,hl,bif_f (by rfl),hi,some_bind,h1,some_bind,chkS_ok (by omega),some_bind,some_bind]
theorem orI_byte {y c:Int} (h0:0≤y) (h1:y<1099511627776) (hc0:0≤c) (hc1:c<256):orI .i64 (IntKind.wrap .i64 (y*2 ^ (min (Int.toNat 8) (IntKind.bits .i64)))) c=y*256+c:=by
  have e:(2:Int) ^ (min (Int.toNat 8) (IntKind.bits .i64))=256:=by decide
  rw [e,wr64 (by omega) (by omega)]
  obtain ⟨a,rfl⟩:=Int.eq_ofNat_of_zero_le h0
  obtain ⟨b,rfl⟩:=Int.eq_ofNat_of_zero_le hc0
  exact or_bytes a b (by omega) (by omega)
theorem rNumber_l1_bad {fu:Nat} : ∀ (n m:Nat) (x:GReader) (y:Int) (k:Int),(6-k).toNat=m→0≤k→m<n→Bad8 x → ∃ v x',rNumber_l1 fu n x y k=some (v,x')∧Bad8 x'
  | 0,m,x,y,k,_,_,h,_=>absurd h (by omega)
  | n+1,m,x,y,k,hm,hk,hn,hx=>by
    rw [rNumber_l1]
    by_cases h:k<6
    · obtain ⟨v,x',h1,h2⟩:=rByte_bad (fu:=fu) hx
      rw [bif_t (dec_t h),h1,some_bind,wr64 (x:=k+1) (by omega) (by omega)]
      exact rNumber_l1_bad n (m-1) x' _ (k+1) (by omega) (by omega) (by omega) h2
    · rw [bif_f (dec_f h)]
      exact ⟨_,x,rfl,hx⟩
theorem rNumberD_bad {fu:Nat} (hf:8≤fu) {x:GReader} (hx:Bad8 x) : ∃ v x',rNumberD fu x=some (v,x')∧Bad8 x':=rNumber_l1_bad fu 6 x 0 0 rfl (by omega) (by omega) hx
theorem rNumber_step {fu n:Nat} {x:GReader} {c:Int} {t:List Int} (h:Rd8 x (c::t)) {y k:Int} (hk:k<6) (hk0:0≤k) (h0:0≤y) (h1:y<1099511627776) : ∃ x',rNumber_l1 fu (n+1) x y k=rNumber_l1 fu n x' (y*256+c) (k+1)∧Rd8 x' t:=by
  obtain ⟨x',h2,h3⟩:=rByte_go (fu:=fu) h
  have hc:=byL_range (s:=x.s) (c:=c) (by rw [h.s];exact List.mem_cons_self)
  refine ⟨x',?_,h3⟩
  rw [rNumber_l1,bif_t (dec_t hk),h2,some_bind,orI_byte h0 h1 hc.1 hc.2,wr64 (x:=k+1) (by omega) (by omega)]
theorem rNumberD_go {fu:Nat} (hf:8≤fu) {x:GReader} {a b c d e f:Int} {t:List Int} (h:Rd8 x (a::b::c::d::e::f::t)) : ∃ x',rNumberD fu x=some (sixV a b c d e f,x')∧Rd8 x' t:=by
  have hr : ∀ z∈[a,b,c,d,e,f],0≤z∧z<256:=fun z hz=>byL_range (s:=x.s) (by rw [h.s];simp at hz ⊢;rcases hz with rfl | rfl | rfl | rfl | rfl | rfl<;>simp)
  have ha:=hr a (by simp)
  have hb:=hr b (by simp)
  have hc:=hr c (by simp)
  have hd:=hr d (by simp)
  have he:=hr e (by simp)
  have hff:=hr f (by simp)
  obtain ⟨n,rfl⟩ : ∃ n,fu=n+7:=⟨fu-7,by omega⟩
  obtain ⟨x1,e1,r1⟩:=rNumber_step (fu:=n+7) (n:=n+6) h (y:=0) (k:=0) (by omega) (by omega) (by omega) (by omega)
  obtain ⟨x2,e2,r2⟩:=rNumber_step (fu:=n+7) (n:=n+5) r1 (y:=0*256+a) (k:=0+1) (by omega) (by omega) (by omega) (by omega)
  obtain ⟨x3,e3,r3⟩:=rNumber_step (fu:=n+7) (n:=n+4) r2 (y:=(0*256+a)*256+b) (k:=0+1+1) (by omega) (by omega) (by omega) (by omega)
  obtain ⟨x4,e4,r4⟩:=rNumber_step (fu:=n+7) (n:=n+3) r3 (y:=((0*256+a)*256+b)*256+c) (k:=0+1+1+1) (by omega) (by omega) (by omega) (by omega)
  obtain ⟨x5,e5,r5⟩:=rNumber_step (fu:=n+7) (n:=n+2) r4 (y:=(((0*256+a)*256+b)*256+c)*256+d) (k:=0+1+1+1+1) (by omega) (by omega) (by omega) (by omega)
  obtain ⟨x6,e6,r6⟩:=rNumber_step (fu:=n+7) (n:=n+1) r5 (y:=((((0*256+a)*256+b)*256+c)*256+d)*256+e) (k:=0+1+1+1+1+1) (by omega) (by omega) (by omega) (by omega)
  refine ⟨x6,?_,r6⟩
  unfold rNumberD
  rw [e1,e2,e3,e4,e5,e6,rNumber_l1,bif_f (by rfl),wr64 (by omega) (by omega)]
  unfold sixV
  rw [Int.zero_mul,Int.zero_add]
theorem rNumber_l1_short {fu:Nat} : ∀ (t:List Int) (n:Nat) (x:GReader) (y k:Int),Rd8 x t→(t.length:Int)+k<6→0≤k→(6-k).toNat<n → ∃ v x',rNumber_l1 fu n x y k=some (v,x')∧Bad8 x'
  | _,0,x,y,k,_,_,_,h=>absurd h (by omega)
  | [],n+1,x,y,k,hx,hs,hk,hn=>by
    obtain ⟨x',h1,h2⟩:=rByte_end (fu:=fu) hx
    simp at hs
    rw [rNumber_l1,bif_t (dec_t hs),h1,some_bind,wr64 (x:=k+1) (by omega) (by omega)]
    exact rNumber_l1_bad n (6-(k+1)).toNat x' _ (k+1) rfl (by omega) (by omega) h2
  | c::t,n+1,x,y,k,hx,hs,hk,hn=>by
    obtain ⟨x',h1,h2⟩:=rByte_go (fu:=fu) hx
    simp at hs
    rw [rNumber_l1,bif_t (dec_t (by omega)),h1,some_bind,wr64 (x:=k+1) (by omega) (by omega)]
    exact rNumber_l1_short t n x' _ (k+1) h2 (by omega) (by omega) (by omega)
theorem rNumberD_short {fu:Nat} (hf:8≤fu) {x:GReader} {t:List Int} (h:Rd8 x t) (hs:t.length<6) : ∃ v x',rNumberD fu x=some (v,x')∧Bad8 x':=rNumber_l1_short t fu x 0 0 h (by omega) (by omega) (by omega)
section
variable {fu:Nat}
theorem dec_l3_bad {n:Nat} {x:GReader} {d:GFrame} {y:Int} (hx:Bad8 x):decode_l3 fu (n+1) x d y=some (noF,1):=by
  rw [decode_l3]
  unfold decode_j6 decode_j8
  rw [hx.1]
  cases decide (y>0)<;>rfl
theorem dec_l2_bad {n:Nat} (hf:8≤fu) {x:GReader} {d:GFrame} {y:Int} (hx:Bad8 x):decode_l2 fu (n+1) x d y=some (noF,1):=by
  obtain ⟨v,x',h1,h2⟩:=rByte_bad (fu:=fu) hx
  obtain ⟨m,rfl⟩ : ∃ m,fu=m+1:=⟨fu-1,by omega⟩
  have h3:=dec_l3_bad (fu:=m+1) (n:=m) (d:=d) (y:=v) h2
  rw [decode_l2]
  unfold decode_j4
  rw [hx.1]
  cases decide (y>0)
  · simp only [cond_false]
    rw [h1,some_bind];exact h3
  · simp only [cond_true,Bool.not_true,cond_false]
    rw [h1,some_bind];exact h3
theorem dec_l1_bad {n:Nat} (hf:8≤fu) {x:GReader} {d:GFrame} {y:Int} (hx:Bad8 x):decode_l1 fu (n+1) x d y=some (noF,1):=by
  obtain ⟨v,x',h1,h2⟩:=rByte_bad (fu:=fu) hx
  obtain ⟨m,rfl⟩ : ∃ m,fu=m+1:=⟨fu-1,by omega⟩
  have h3:=dec_l2_bad (fu:=m+1) (n:=m) hf (d:=d) (y:=v) h2
  rw [decode_l1]
  unfold decode_j2
  rw [hx.1]
  cases decide (y>0)
  · simp only [cond_false]
    rw [h1,some_bind];exact h3
  · simp only [cond_true,Bool.not_true,cond_false]
    rw [h1,some_bind];exact h3
theorem dec_end {x:GReader} {l:List Int} (hx:Rd8 x l) {n:Nat} {d:GFrame} {y:Int} (hy : ¬ y>0):decode_l3 fu (n+1) x d y=some (finZ (some (d,l))):=by
  rw [decode_l3,bif_f (dec_f hy)]
  unfold decode_j6 decode_j8 decode_j7
  rw [bif_f rfl,hx.ok,bif_f rfl,byL_empty,hx.s]
  cases l with
  | nil =>
    rw [bif_f (by rfl),some_bind]
    have e0:finZ (some (d,[]))=bif frameZ d==0 then (d,0) else (noF,1):=rfl
    rw [e0]
    by_cases h:frameZ d=0
    · rw [h];rfl
    · have e1:(frameZ d != 0)=true:=by simp [h]
      have e2:(frameZ d==0)=false:=by simp [h]
      rw [e1,e2];rfl
  | cons c t=>rfl
theorem dec_l3_eq (hf:12≤fu) : ∀ (m n:Nat) (x:GReader) (l:List Int) (d:GFrame),m<n→m<256→d.at_.length+m≤300→d.vals.length+m≤300→Rd8 x l →
    decode_l3 fu n x d m=some (finZ ((pAts m l).map fun z=>({ d with at_:=d.at_++z.1,vals:=d.vals++z.2.1 },z.2.2)))
  | m,0,_,_,_,h,_,_,_,_=>absurd h (by omega)
  | 0,n+1,x,l,d,_,_,_,_,hx=>by
    rw [dec_end hx (by omega),pAts]
    have e:({ d with at_:=d.at_++[],vals:=d.vals++[] }:GFrame)=d:=by simp
    simp only [Option.map_some]
    rw [e]
  | m+1,n+1,x,l,d,hn,hm,ha,hv,hx=>by
    have hy:(((m+1:Nat):Int))>0:=by omega
    have e1:IntKind.wrap .i64 (((m+1:Nat):Int)-1)=(m:Int):=by rw [wr64 (by omega) (by omega)];omega
    rw [decode_l3,bif_t (dec_t hy)]
    unfold decode_j6 decode_j5
    rw [hx.ok,bif_t (c := !false) rfl]
    cases l with
    | nil =>
      obtain ⟨x',h1,h2⟩:=rByte_end (fu:=fu) hx
      obtain ⟨v,x2,h3,h4⟩:=rNumberD_bad (fu:=fu) (by omega) h2
      simp only [h1,h3,some_bind]
      rw [app_ok (by have:Rep.bytes Int=8:=rfl;rw [this];simp;omega),some_bind,app_ok (by have:Rep.bytes Int=8:=rfl;rw [this];simp;omega),some_bind,e1]
      obtain ⟨n,rfl⟩ : ∃ q,n=q+1:=⟨n-1,by omega⟩
      rw [dec_l3_bad h4]
      rfl
    | cons k t =>
      obtain ⟨x',h1,h2⟩:=rByte_go (fu:=fu) hx
      by_cases h6:t.length<6
      · obtain ⟨v,x2,h3,h4⟩:=rNumberD_short (fu:=fu) (by omega) h2 h6
        simp only [h1,h3,some_bind]
        rw [app_ok (by have:Rep.bytes Int=8:=rfl;rw [this];simp;omega),some_bind,app_ok (by have:Rep.bytes Int=8:=rfl;rw [this];simp;omega),some_bind,e1]
        obtain ⟨n,rfl⟩ : ∃ q,n=q+1:=⟨n-1,by omega⟩
        rw [dec_l3_bad h4]
        have:pAts (m+1) (k::t)=none:=by
          match t,h6 with
          | [],_=>rfl
          | [_],_=>rfl
          | [_,_],_=>rfl
          | [_,_,_],_=>rfl
          | [_,_,_,_],_=>rfl
          | [_,_,_,_,_],_=>rfl
          | _::_::_::_::_::_::_,h=>simp at h;omega
        rw [this]
        rfl
      · obtain ⟨a,b,c,e,f,g,u,rfl⟩ : ∃ a b c e f g u,t=a::b::c::e::f::g::u:=by
          match t,h6 with
          | [],h=>simp at h
          | [_],h=>simp at h
          | [_,_],h=>simp at h
          | [_,_,_],h=>simp at h
          | [_,_,_,_],h=>simp at h
          | [_,_,_,_,_],h=>simp at h
          | a::b::c::e::f::g::u,_=>exact ⟨a,b,c,e,f,g,u,rfl⟩
        obtain ⟨x2,h3,h4⟩:=rNumberD_go (fu:=fu) (by omega) h2
        simp only [h1,h3,some_bind]
        rw [app_ok (by have:Rep.bytes Int=8:=rfl;rw [this];simp;omega),some_bind,app_ok (by have:Rep.bytes Int=8:=rfl;rw [this];simp;omega),some_bind,e1]
        rw [dec_l3_eq hf m n x2 u { d with at_:=d.at_++[k],vals:=d.vals++[sixV a b c e f g] } (by omega) (by omega) (by simp;omega) (by simp;omega) h4,pAts]
        cases hp:pAts m u with
        | none=>rfl
        | some p=>simp [List.append_assoc]
theorem dec_l2_eq (hf:300≤fu) : ∀ (m n:Nat) (x:GReader) (l:List Int) (d:GFrame),m<n→m<256→d.deps.length+m≤300→d.at_=[]→d.vals=[]→Rd8 x l→(∀ c∈l,0≤c∧c<256) →
    decode_l2 fu n x d m=some (finZ ((pDeps m l).bind fun q=>pTail d.kind d.node d.id d.ops (d.deps++q.1) q.2))
  | m,0,_,_,_,h,_,_,_,_,_,_=>absurd h (by omega)
  | 0,n+1,x,l,d,_,_,_,ha,hv,hx,hr=>by
    rw [decode_l2,bif_f (dec_f (by omega))]
    unfold decode_j4
    rw [bif_f rfl]
    cases l with
    | nil =>
      obtain ⟨x',h1,h2⟩:=rByte_end (fu:=fu) hx
      obtain ⟨q,rfl⟩ : ∃ q,fu=q+1:=⟨fu-1,by omega⟩
      rw [h1,some_bind]
      simp only
      rw [dec_l3_bad h2]
      rfl
    | cons k u =>
      obtain ⟨x',h1,h2⟩:=rByte_go (fu:=fu) hx
      have hk:=hr k List.mem_cons_self
      rw [h1,some_bind]
      simp only
      have e:k=((k.toNat:Nat):Int):=by omega
      have h3:=dec_l3_eq (fu:=fu) (by omega) k.toNat fu x' u d (by omega) (by omega) (by rw [ha];simp;omega) (by rw [hv];simp;omega) h2
      rw [← e] at h3
      rw [h3,ha,hv]
      simp [pDeps,pTail]
  | m+1,n+1,x,l,d,hn,hm,hd,ha,hv,hx,hr=>by
    have hy:(((m+1:Nat):Int))>0:=by omega
    have e1:IntKind.wrap .i64 (((m+1:Nat):Int)-1)=(m:Int):=by rw [wr64 (by omega) (by omega)];omega
    rw [decode_l2,bif_t (dec_t hy)]
    unfold decode_j4 decode_j3
    rw [hx.ok,bif_t (c := !false) rfl]
    cases l with
    | nil =>
      obtain ⟨x',h1,h2⟩:=rByte_end (fu:=fu) hx
      simp only [h1,some_bind]
      rw [app_ok (by have:Rep.bytes Int=8:=rfl;rw [this];simp;omega),some_bind,e1]
      obtain ⟨n,rfl⟩ : ∃ q,n=q+1:=⟨n-1,by omega⟩
      rw [dec_l2_bad (by omega) h2]
      rfl
    | cons k t =>
      obtain ⟨x',h1,h2⟩:=rByte_go (fu:=fu) hx
      simp only [h1,some_bind]
      rw [app_ok (by have:Rep.bytes Int=8:=rfl;rw [this];simp;omega),some_bind,e1]
      rw [dec_l2_eq hf m n x' t { d with deps:=d.deps++[k] } (by omega) (by omega) (by simp;omega) ha hv h2 (fun c hc=>hr c (List.mem_cons_of_mem _ hc))]
      unfold pDeps
      by_cases hle:m≤t.length
      · rw [if_pos hle,if_pos (show m+1≤(k::t).length by simp;exact hle)]
        simp only [List.take_succ_cons,List.drop_succ_cons,List.append_assoc,List.cons_append,List.nil_append,Option.bind_some]
      · rw [if_neg hle,if_neg (show ¬ m+1≤(k::t).length by simp;omega)]
        rfl
theorem pOps_short {m:Nat} {t:List Int} (h:t.length<8):pOps (m+1) t=none:=by
  match t,h with
  | [],_=>rfl
  | [_],_=>rfl
  | [_,_],_=>rfl
  | [_,_,_],_=>rfl
  | [_,_,_,_],_=>rfl
  | [_,_,_,_,_],_=>rfl
  | [_,_,_,_,_,_],_=>rfl
  | [_,_,_,_,_,_,_],_=>rfl
  | _::_::_::_::_::_::_::_::_,h=>simp at h;omega
theorem eight_of {t:List Int} (h : ¬ t.length<8) : ∃ k y a b c d e f u,t=k::y::a::b::c::d::e::f::u:=by
  match t,h with
  | [],h=>simp at h
  | [_],h=>simp at h
  | [_,_],h=>simp at h
  | [_,_,_],h=>simp at h
  | [_,_,_,_],h=>simp at h
  | [_,_,_,_,_],h=>simp at h
  | [_,_,_,_,_,_],h=>simp at h
  | [_,_,_,_,_,_,_],h=>simp at h
  | k::y::a::b::c::d::e::f::u,_=>exact ⟨k,y,a,b,c,d,e,f,u,rfl⟩
theorem dec_l1_eq (hf:300≤fu) : ∀ (m n:Nat) (x:GReader) (l:List Int) (d:GFrame),m<n→m<256→d.ops.length+m≤300→d.deps=[]→d.at_=[]→d.vals=[]→Rd8 x l→(∀ c∈l,0≤c∧c<256) →
    decode_l1 fu n x d m=some (finZ ((pOps m l).bind fun p=>pRest d.kind d.node d.id (d.ops++p.1) p.2))
  | m,0,_,_,_,h,_,_,_,_,_,_,_=>absurd h (by omega)
  | 0,n+1,x,l,d,_,_,_,hdd,ha,hv,hx,hr=>by
    rw [decode_l1,bif_f (dec_f (by omega))]
    unfold decode_j2
    rw [bif_f rfl,pOps]
    simp only [Option.bind_some,List.append_nil]
    cases l with
    | nil =>
      obtain ⟨x',h1,h2⟩:=rByte_end (fu:=fu) hx
      obtain ⟨q,rfl⟩ : ∃ q,fu=q+1:=⟨fu-1,by omega⟩
      rw [h1,some_bind]
      simp only
      rw [dec_l2_bad (by omega) h2]
      rfl
    | cons k u =>
      obtain ⟨x',h1,h2⟩:=rByte_go (fu:=fu) hx
      have hk:=hr k List.mem_cons_self
      rw [h1,some_bind]
      simp only
      have e:k=((k.toNat:Nat):Int):=by omega
      have h3:=dec_l2_eq (fu:=fu) hf k.toNat fu x' u d (by omega) (by omega) (by rw [hdd];simp;omega) ha hv h2 (fun c hc=>hr c (List.mem_cons_of_mem _ hc))
      rw [← e] at h3
      rw [h3,hdd]
      simp [pRest]
  | m+1,n+1,x,l,d,hn,hm,ho,hdd,ha,hv,hx,hr=>by
    have hy:(((m+1:Nat):Int))>0:=by omega
    have e1:IntKind.wrap .i64 (((m+1:Nat):Int)-1)=(m:Int):=by rw [wr64 (by omega) (by omega)];omega
    rw [decode_l1,bif_t (dec_t hy)]
    unfold decode_j2 decode_j1
    rw [hx.ok,bif_t (c := !false) rfl]
    by_cases h8:l.length<8
    · rw [pOps_short h8]
      have hbad : ∃ v1 x1 v2 x2 v3 x3,rByteD fu x=some (v1,x1)∧rByteD fu x1=some (v2,x2)∧rNumberD fu x2=some (v3,x3)∧Bad8 x3:=by
        cases l with
        | nil =>
          obtain ⟨x1,h1,r1⟩:=rByte_end (fu:=fu) hx
          obtain ⟨v2,x2,h2,r2⟩:=rByte_bad (fu:=fu) r1
          obtain ⟨v3,x3,h3,r3⟩:=rNumberD_bad (fu:=fu) (by omega) r2
          exact ⟨_,x1,v2,x2,v3,x3,h1,h2,h3,r3⟩
        | cons c t =>
          obtain ⟨x1,h1,r1⟩:=rByte_go (fu:=fu) hx
          cases t with
          | nil =>
            obtain ⟨x2,h2,r2⟩:=rByte_end (fu:=fu) r1
            obtain ⟨v3,x3,h3,r3⟩:=rNumberD_bad (fu:=fu) (by omega) r2
            exact ⟨_,x1,_,x2,v3,x3,h1,h2,h3,r3⟩
          | cons c2 u =>
            obtain ⟨x2,h2,r2⟩:=rByte_go (fu:=fu) r1
            obtain ⟨v3,x3,h3,r3⟩:=rNumberD_short (fu:=fu) (by omega) r2 (by simp at h8;omega)
            exact ⟨_,x1,_,x2,v3,x3,h1,h2,h3,r3⟩
      obtain ⟨v1,x1,v2,x2,v3,x3,h1,h2,h3,r3⟩:=hbad
      simp only [h1,h2,h3,some_bind]
      rw [app_ok (by have:Rep.bytes GOp=24:=rfl;rw [this];simp;omega),some_bind,e1]
      obtain ⟨n,rfl⟩ : ∃ q,n=q+1:=⟨n-1,by omega⟩
      rw [dec_l1_bad (by omega) r3]
      rfl
    · obtain ⟨k,y,a,b,c,dd,e,f,u,rfl⟩:=eight_of h8
      obtain ⟨x1,h1,r1⟩:=rByte_go (fu:=fu) hx
      obtain ⟨x2,h2,r2⟩:=rByte_go (fu:=fu) r1
      obtain ⟨x3,h3,r3⟩:=rNumberD_go (fu:=fu) (by omega) r2
      simp only [h1,h2,h3,some_bind]
      rw [app_ok (by have:Rep.bytes GOp=24:=rfl;rw [this];simp;omega),some_bind,e1]
      rw [dec_l1_eq hf m n x3 u { d with ops:=d.ops++[⟨k,y,sixV a b c dd e f⟩] } (by omega) (by omega) (by simp;omega) hdd ha hv r3 (fun z hz=>hr z (by simp [hz])),pOps]
      cases hp:pOps m u with
      | none=>rfl
      | some p=>simp [List.append_assoc]
theorem decodeD_eq (hf:300≤fu) {s:ByteArray} (hs:s.size≤140737488351232):decodeD fu s=some (decZ (byL s)):=by
  have hr : ∀ c∈byL s,0≤c∧c<256:=fun c hc=>byL_range hc
  have hx:Rd8 { s:=s,bad:=Zr.zd } (byL s):=⟨rfl,rfl,hs⟩
  unfold decodeD
  rw [chkS_ok hs,some_bind,some_bind]
  generalize byL s=l at hr hx
  have hbad : ∀ {x:GReader} {d:GFrame} {y:Int},Bad8 x→decode_l1 fu fu x d y=some (noF,1):=fun {x d y} h=>by
    obtain ⟨q,hq⟩ : ∃ q,fu=q+1:=⟨fu-1,by omega⟩
    have:=dec_l1_bad (fu:=fu) (n:=q) (by omega) (d:=d) (y:=y) h
    rw [← hq] at this
    exact this
  have b1 : ∀ {x:GReader},Bad8 x → ∃ v x',rByteD fu x=some (v,x')∧Bad8 x':=fun h=>rByte_bad h
  match l,hx,hr with
  | [],hx,_ =>
    obtain ⟨x1,h1,r1⟩:=rByte_end (fu:=fu) hx
    obtain ⟨v2,x2,h2,r2⟩:=b1 r1
    obtain ⟨v3,x3,h3,r3⟩:=b1 r2
    obtain ⟨v4,x4,h4,r4⟩:=b1 r3
    simp only [h1,h2,h3,h4,some_bind]
    rw [hbad r4];rfl
  | [a],hx,_ =>
    obtain ⟨x1,h1,r1⟩:=rByte_go (fu:=fu) hx
    obtain ⟨x2,h2,r2⟩:=rByte_end (fu:=fu) r1
    obtain ⟨v3,x3,h3,r3⟩:=b1 r2
    obtain ⟨v4,x4,h4,r4⟩:=b1 r3
    simp only [h1,h2,h3,h4,some_bind]
    rw [hbad r4];rfl
  | [a,b],hx,_ =>
    obtain ⟨x1,h1,r1⟩:=rByte_go (fu:=fu) hx
    obtain ⟨x2,h2,r2⟩:=rByte_go (fu:=fu) r1
    obtain ⟨x3,h3,r3⟩:=rByte_end (fu:=fu) r2
    obtain ⟨v4,x4,h4,r4⟩:=b1 r3
    simp only [h1,h2,h3,h4,some_bind]
    rw [hbad r4];rfl
  | [a,b,c],hx,_ =>
    obtain ⟨x1,h1,r1⟩:=rByte_go (fu:=fu) hx
    obtain ⟨x2,h2,r2⟩:=rByte_go (fu:=fu) r1
    obtain ⟨x3,h3,r3⟩:=rByte_go (fu:=fu) r2
    obtain ⟨x4,h4,r4⟩:=rByte_end (fu:=fu) r3
    simp only [h1,h2,h3,h4,some_bind]
    rw [hbad r4];rfl
  | a::b::c::no::t,hx,hr =>
    obtain ⟨x1,h1,r1⟩:=rByte_go (fu:=fu) hx
    obtain ⟨x2,h2,r2⟩:=rByte_go (fu:=fu) r1
    obtain ⟨x3,h3,r3⟩:=rByte_go (fu:=fu) r2
    obtain ⟨x4,h4,r4⟩:=rByte_go (fu:=fu) r3
    simp only [h1,h2,h3,h4,some_bind]
    have hno:=hr no (by simp)
    have e:no=((no.toNat:Nat):Int):=by omega
    have h5:=dec_l1_eq (fu:=fu) hf no.toNat fu x4 t { kind:=a,node:=b,id:=c,ops:=Zr.zd,deps:=Zr.zd,at_:=Zr.zd,vals:=Zr.zd } (by omega) (by omega) (by show ([]:List GOp).length+_≤_;simp;omega) rfl rfl rfl r4 (fun z hz=>hr z (by simp [hz]))
    rw [← e] at h5
    rw [h5]
    rfl
end
end Go.Proofs.Yteilffoclpgijaa
namespace Go.Proofs.Yteilffoclpgijaa
open Go.RowKit
open Rep (rep)
theorem wrsB (k:Nat) (h:k≤17592186043904):IntKind.wrap .i64 ((k:Int)+1)=((k+1:Nat):Int):=by rw [wr64 (by omega) (by omega)];omega
theorem hdr_eq {s:ByteArray} (h:s.size≤400):strOfNums (([⟨IntKind.wrap .u8 (Int.fdiv (s.size:Int) (2 ^ (min (Int.toNat 8) (IntKind.bits .i64))))⟩,⟨IntKind.wrap .u8 (s.size:Int)⟩]:List Byt).map Byt.val)=strOfNums [(s.size:Int) / 256,(s.size:Int)%256]:=by
  have e:(2:Int) ^ (min (Int.toNat 8) (IntKind.bits .i64))=256:=by decide
  have e1:IntKind.wrap .u8 (Int.fdiv (s.size:Int) (2 ^ (min (Int.toNat 8) (IntKind.bits .i64))))=(s.size:Int) / 256:=by
    rw [e,wr8,Int.fdiv_eq_ediv_of_nonneg _ (by omega)]
    omega
  have e2:IntKind.wrap .u8 (s.size:Int)=(s.size:Int)%256:=wr8 _
  simp only [List.map_cons,List.map_nil,e1,e2]
theorem wout_of {log s:ByteArray} {c:Int} (h:wcode log s=c) (hc:c≠0):wout log s=log:=by unfold wout;rw [h,if_neg hc]
theorem bkWriteD_eq {fu:Nat} {log s:ByteArray} (hs:s.size≤140737488351232):bkWriteD fu log s=some (wout log s,wcode log s):=by
  unfold bkWriteD bkWrite_j2
  by_cases h1:65536<log.size
  · have hc:wcode log s=2:=by unfold wcode;rw [if_pos h1]
    rw [bif_t (dec_t (by omega)),wout_of hc (by decide),hc]
  · rw [bif_f (dec_f (by omega))]
    by_cases h2:s.size=0
    · have hc:wcode log s=1:=by unfold wcode;rw [if_neg h1,if_pos (.inl h2)]
      rw [bif_t (dec_t (by omega)),cond_true,wout_of hc (by decide),hc]
    · rw [bif_f (dec_f (by omega))]
      by_cases h3:400<s.size
      · have hc:wcode log s=1:=by unfold wcode;rw [if_neg h1,if_pos (.inr h3)]
        rw [dec_t (by omega),cond_true,wout_of hc (by decide),hc]
      · rw [dec_f (by omega),cond_false,wr64 (x:=(log.size:Int)+2) (by omega) (by omega),wr64 (by omega) (by omega)]
        by_cases h4:65536<log.size+2+s.size
        · have hc:wcode log s=5:=by unfold wcode;rw [if_neg h1,if_neg (by omega),if_pos h4]
          rw [bif_t (dec_t (by omega)),wout_of hc (by decide),hc]
        · have hc:wcode log s=0:=by unfold wcode;rw [if_neg h1,if_neg (by omega),if_neg h4]
          have hz:(strOfNums [(s.size:Int) / 256,(s.size:Int)%256]).size=2:=rfl
          have hw:wout log s=wtext log s:=by unfold wout;rw [if_pos hc]
          rw [bif_f (dec_f (by omega)),bkWrite_j1,hdr_eq (by omega),cat_ok (by omega),some_bind,cat_ok (by rw [ByteArray.size_append];omega),some_bind,hc,hw]
          rfl
theorem bkTearD_eq {fu:Nat} {log s:ByteArray} {n:Int} (hs:s.size≤140737488351232):bkTearD fu log s n=some (tearZ log s n):=by
  unfold bkTearD
  rw [bkWriteD_eq hs,some_bind]
  rcases wcode_or log s with ⟨h0,h1,h2,h3⟩ | ⟨h0,_⟩
  · have hw:wout log s=wtext log s:=by unfold wout;rw [if_pos h0]
    have hsz:=wtext_size log s
    unfold tearZ
    rw [h0,hw,bif_f (by rfl),if_pos rfl]
    dsimp only
    rw [wr64 (x:=((wtext log s).size:Int)-(log.size:Int)) (by omega) (by omega),wr64 (by omega) (by omega)]
    unfold cutB cutOk
    simp only [Option.getD_some,Option.getD_none]
    rw [if_pos (by omega)]
    have e:((log.size:Int)+max 0 (min n (((wtext log s).size:Int)-(log.size:Int)))).toNat=log.size+tornLen s n:=by
      unfold tornLen
      split
      · omega
      · split<;>omega
    rw [e]
    rfl
  · unfold tearZ
    rw [bif_t (by simpa using h0),if_neg h0]
theorem idxS_at {s:ByteArray} {k:Nat} (h:k<s.size):idxS s (k:Int)=some ((s[k]).toNat:Int):=by
  unfold idxS
  rw [if_pos (by omega),Int.toNat_natCast,getElem?_pos s k h]
  rfl
theorem two_bytes {s:ByteArray} {k:Nat} (h:k+2≤s.size):orI .i64 (IntKind.wrap .i64 ((IntKind.wrap .i64 (((s[k]).toNat:Nat):Int))*2 ^ (min (Int.toNat 8) (IntKind.bits .i64)))) (IntKind.wrap .i64 (((s[k+1]).toNat:Nat):Int))=((recN s[k] s[k+1]:Nat):Int):=by
  have h1:=(s[k]).toNat_lt
  have h2:=(s[k+1]).toNat_lt
  rw [wr64 (x:=(((s[k]).toNat:Nat):Int)) (by omega) (by omega),wr64 (x:=(((s[k+1]).toNat:Nat):Int)) (by omega) (by omega),orI_byte (by omega) (by omega) (by omega) (by omega)]
  unfold recN
  omega
theorem bkRead_l1_eq {log:ByteArray} (hl:log.size≤65536) : ∀ (n m k:Nat) (acc:List ByteArray),log.size≤k+m→m<n→k≤log.size→ReadTo log acc k→bkRead_l1 log n acc k=some ((readL log.data.toList).1,((readL log.data.toList).2:Int))
  | 0,m,k,_,_,h,_,_=>absurd h (by omega)
  | n+1,m,k,acc,hk,hn,hkl,h=>by
    have hb:Rep.bytes ByteArray=16:=rfl
    have hlen:=h.2.2
    have hdl:log.data.toList.length=log.size:=rfl
    rw [bkRead_l1,wr64 (x:=(k:Int)+2) (by omega) (by omega)]
    by_cases h2:k+2≤log.size
    · have hstop : ¬ (1≤recN log[k] log[k+1]∧recN log[k] log[k+1]≤400∧recN log[k] log[k+1]≤log.size-k-2)→some (acc,(k:Int))=some ((readL log.data.toList).1,((readL log.data.toList).2:Int)):=fun hno=>by
        have he:readL (log.data.toList.drop k)=([],0):=by
          rw [drop_two h2,readL_stop (by rw [List.length_drop,hdl];omega)]
        rw [readTo_end h he]
      have hrn:recN log[k] log[k+1]<65536:=by
        have h1:=(log[k]).toNat_lt
        have h2:=(log[k+1]).toNat_lt
        unfold recN
        omega
      have hi:=two_bytes h2
      rw [bif_t (dec_t (by omega)),idxS_at (by omega),some_bind,wrsB k (by omega),idxS_at (by omega),some_bind]
      simp only [bkRead_j3,bkRead_j2,bkRead_j1,hi]
      rw [wr64 (x:=(log.size:Int)-(k:Int)) (by omega) (by omega),wr64 (x:=(log.size:Int)-(k:Int)-2) (by omega) (by omega)]
      generalize hr:recN log[k] log[k+1]=r at hstop hrn
      by_cases c1:r<1
      · rw [bif_t (dec_t (by omega)),cond_true];exact hstop (by omega)
      · rw [bif_f (dec_f (by omega))]
        by_cases c2:400<r
        · rw [bif_t (dec_t (by omega)),cond_true];exact hstop (by omega)
        · rw [bif_f (dec_f (by omega))]
          by_cases c3:log.size-k-2<r
          · rw [dec_t (by omega),cond_true];exact hstop (by omega)
          · rw [dec_f (by omega),cond_false]
            have hnext:=readTo_next h h2 (by rw [hr];omega)
            rw [hr] at hnext
            have e1:IntKind.wrap .i64 ((k:Int)+IntKind.wrap .i64 (2+(r:Int)))=((k+(2+r):Nat):Int):=by
              rw [wr64 (x:=2+(r:Int)) (by omega) (by omega),wr64 (by omega) (by omega)]
              omega
            have e2:cutB log (some (IntKind.wrap .i64 ((k:Int)+2))) (some (IntKind.wrap .i64 (IntKind.wrap .i64 ((k:Int)+2)+(r:Int))))=some (log.extract (k+2) (k+2+r)):=by
              rw [wr64 (x:=(k:Int)+2) (by omega) (by omega),wr64 (by omega) (by omega)]
              unfold cutB cutOk
              simp only [Option.getD_some]
              rw [if_pos (by omega)]
              have e:((k:Int)+2).toNat=k+2:=by omega
              have e':((k:Int)+2+(r:Int)).toNat=k+2+r:=by omega
              rw [e,e']
              rfl
            have e3:(log.extract (k+2) (k+2+r)).size≤140737488351232:=by
              rw [ByteArray.size_extract]
              omega
            rw [wr64 (x:=(k:Int)+2) (by omega) (by omega)] at e2
            first
              | rw [e2,some_bind,chkS_ok e3,some_bind,app_ok (by rw [hb];simp only [List.length_singleton];omega),some_bind,e1]
              | rw [wr64 (x:=(k:Int)+2) (by omega) (by omega),e2,some_bind,chkS_ok e3,some_bind,app_ok (by rw [hb];simp only [List.length_singleton];omega),some_bind,e1]
            exact bkRead_l1_eq hl n (m-1) (k+(2+r)) _ (by omega) (by omega) (by omega) hnext
    · rw [bif_f (dec_f (by omega)),bkRead_j1]
      have he:readL (log.data.toList.drop k)=([],0):=readL_short (by rw [List.length_drop,hdl];omega)
      rw [readTo_end h he]
theorem bkReadD_eq {fu:Nat} {log:ByteArray} (hl:log.size≤65536) (hf:log.size<fu):bkReadD fu log=some ((readL log.data.toList).1,((readL log.data.toList).2:Int)) :=
  bkRead_l1_eq hl fu log.size 0 [] (by omega) hf (by omega) (readTo_zero log)
theorem readL_small : ∀ (n:Nat) (l:List UInt8),l.length≤n→(readL l).2≤l.length∧(readL l).1.length≤l.length ∧ ∀ x∈(readL l).1,x.size≤400
  | n,[],_=>by rw [readL_short (by simp)];simp
  | n,[x],_=>by rw [readL_short (by simp)];simp
  | 0,a::b::r,h=>by simp at h
  | n+1,a::b::r,h=>by
    by_cases hk:1≤recN a b∧recN a b≤400∧recN a b≤r.length
    · have ih:=readL_small n (r.drop (recN a b)) (by simp at h ⊢;omega)
      rw [List.length_drop] at ih
      rw [readL_go hk]
      refine ⟨by simp only [List.length_cons];omega,by simp only [List.length_cons];omega,fun x hx => ?_⟩
      rcases List.mem_cons.1 hx with rfl | hx
      · show (List.take _ r).toArray.size≤400
        simp
        omega
      · exact ih.2.2 x hx
    · rw [readL_stop hk]
      simp
end Go.Proofs.Yteilffoclpgijaa
