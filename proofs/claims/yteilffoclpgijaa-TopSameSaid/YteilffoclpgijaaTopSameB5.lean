/- What the proof of TopSame rests on, part 5: rules of walks, what functions compute, and plain laws of it. -/
import Derived.Test.YteilffoclpgijaaTopSameB4
namespace Go.Proofs.Yteilffoclpgijaa
open Go.RowKit
open Rep (rep)
set_option linter.unusedVariables false
abbrev Vm := @Try.underlying23
abbrev Yz := @GCluster.p0
abbrev Y4 := @GCluster.p2
abbrev Vd := @GCluster.p4
abbrev Jo := @fa90_6
abbrev V3 := @GReply.w0
abbrev Kr := @ta40
abbrev Vv := @GCluster.p5
abbrev Ve := @GCluster.p3
abbrev Y0 := @GCluster.p1
abbrev K9 := @GCluster.u0
abbrev Ks := @fa43_1
abbrev V5 := @GAct.p1
abbrev Ja := @fa43_0
abbrev Ko := @GAct.p0
def cloneStrsD (fu:Nat) (x1:List ByteArray):Option (List ByteArray) :=
 (app ([]:List ByteArray) x1).bind fun l8 =>
 some l8
set_option maxRecDepth 100000 in
set_option maxHeartbeats 4000000 in
theorem cloneStrs_ok {M:Mm} {w:World} {vx1:Value} {x1:List ByteArray} {fu:Nat} {r:(List ByteArray)} (hA:Agree M w) (hvx1:repL M vx1 x1) (hz:cloneStrsD fu x1=some r) :
    Calls Try.prog 59 #[vx1] w (GivesL M w [] (fun M' u L' => ∃ v0,u=v0∧L'=[.row v0 9 1]∧repL M' v0 r)):=by
 refine Zh Try.func59 rfl 8 rfl rfl (by kernel_rfl) fun T hT => ?_
 have hT_0:T 0=vx1:=hT 0
 clear hT
 have hE:=Qg w.heap.size (lentX []) M
 have hS:St w (lentX []) M [] w:=Zv hA
 rw [cloneStrsD] at hz
 refine Qh <|Qi <|Qd (Qj ((.slice none 0 0)) rfl) ?_
 refine Qf (Qa ?_)
 refine Qh <|Qh <|Qi <|Qd (Qe (vx1) hT_0) <|Qd (Y_eqNilL rfl rfl Vl hvx1) ?_
 refine Qf (Qa ?_)
 refine Qr rfl (fun hc2 => ?_) (fun hc2 => ?_)
 replace hz:(some [])=some r:=by rw [repL_isNil hvx1 hc2] at hz;simpa [app] using hz
 refine Qh <|Qi <|Qd (Qj ((.slice none 0 0)) rfl) ?_
 refine Qf (Qa ?_)
 replace hS:=hS.nilRow 9 1
 cases hz
 exact Q4 (Qs (Yj rfl rfl ⟨_,M,_,rfl,hE,(hS.sel (H':=[.row (.slice none 0 0) 9 1]) [0] (by decide) rfl),(.slice none 0 0),rfl,rfl,(Z3 _)⟩))
 refine Qv (Qa ?_)
 refine Qh <|Qi ?_
 refine Qu (O_bslice0R tp72 hS ?_)
 intro v4 M4 w3 hx4 hv4 hS
 replace hv4:repL M4 v4 ([]:List ByteArray):=hv4 _
 replace hvx1:=Qw hx4.1 hvx1
 refine Qd (Qe (vx1) hT_0) ?_
 obtain ⟨l8,hr7,hz⟩:=Qb hz
 obtain ⟨hy7,hs7⟩:=Z1 hr7
 refine Qu (Y3 (α := ByteArray) (j:=0) tp72 hS rfl rfl rfl hv4 hvx1 hy7 ?_)
 intro v7 M7 w6 hx7 hv7 hS
 rw [← hs7] at hv7
 clear hr7 hs7
 replace hE:=Qc hE (hx4.trans hx7)
 refine Qd (Qj (v7) rfl) ?_
 refine Qf (Qa ?_)
 cases hz
 exact Q4 (Yj rfl rfl ⟨_,M7,_,rfl,hE,(hS.sel (H':=[.row v7 9 1]) [0] (by decide) rfl),v7,rfl,rfl,hv7⟩)
def ownedD (fu:Nat) (x1:GEntry):Option GEntry :=
 (cloneOpsD fu x1.ops).bind fun r16 =>
 (cloneIntsD fu x1.first).bind fun r20 =>
 (cloneIntsD fu x1.deps).bind fun r25 =>
 (cloneIntsD fu x1.at_).bind fun r30 =>
 (cloneIntsD fu x1.values).bind fun r35 =>
 (some ({ x1 with ops:=r16 }:GEntry)).bind fun d40 =>
 (some ({ d40 with first:=r20 }:GEntry)).bind fun d43 =>
 (some ({ d43 with deps:=r25 }:GEntry)).bind fun d46 =>
 (some ({ d46 with at_:=r30 }:GEntry)).bind fun d49 =>
 (some ({ d49 with values:=r35 }:GEntry)).bind fun d52 =>
 (some d52).bind fun d56 =>
 some d56
set_option maxRecDepth 100000 in
set_option maxHeartbeats 4000000 in
theorem owned_ok {M:Mm} {w:World} {cx1:List Value} {x1:GEntry} {fu:Nat} {r:GEntry} (hA:Agree M w) (hcx1:rep M cx1 x1) (hz:ownedD fu x1=some r) :
    Calls Try.prog 45 #[.agg cx1.toArray] w (Gives M w (fun M' u => ∃ cs,u = .agg cs.toArray∧rep M' cs r)):=by
 refine Zh Try.func45 rfl 24 rfl rfl (by kernel_rfl) fun T hT => ?_
 have hT_0:T 0 = .agg cx1.toArray:=hT 0
 clear hT
 have hE:=Qg w.heap.size noX M
 have hS:St w noX M [] w:=Zv hA
 rw [ownedD] at hz
 refine Qh <|Qi ?_
 refine Qu (Yo (v := .agg cx1.toArray) (cs:=cx1) hT_0 rfl hS ?_)
 intro b3 w2 hb3 hS
 refine Qu (Zf tz30 hS ?_)
 intro b5 w4 hb5 hS
 have zb5:rep M (Zr.zc GEntry) (Zr.zd:GEntry):=Zr.zr
 refine Qf (Qa ?_)
 refine Qh <|Yt [.box b3 cx1 30] [16,18,20,22,24] Z6 hS fun w6 hS hG7 hR8=>wy 0 rfl (Qp K8 rfl) (fun _=>hR8) ?_
 obtain ⟨v9,ev9,hv9⟩:=(Vt (rr hcx1))
 refine Y6 1 rfl (Ql v9 Vn rfl (Ym 0 rfl) ev9) hR8 <|wy 3 rfl (Qp fa30_2 rfl) (fun _=>hR8) ?_
 obtain ⟨v10,ev10,hv10⟩:=(Kd (rr hcx1))
 refine Y6 4 rfl (Ql v10 Z2 rfl (Ym 0 rfl) ev10) hR8 <|wy 6 rfl (Qp Jn rfl) (fun _=>hR8) ?_
 obtain ⟨v11,ev11,hv11⟩:=(V2 (rr hcx1))
 refine Y6 7 rfl (Ql v11 Z2 rfl (Ym 0 rfl) ev11) hR8 <|wy 9 rfl (Qp Vp rfl) (fun _=>hR8) ?_
 obtain ⟨v12,ev12,hv12⟩:=(Yh (rr hcx1))
 refine Y6 10 rfl (Ql v12 Z2 rfl (Ym 0 rfl) ev12) hR8 <|wy 12 rfl (Qp V8 rfl) (fun _=>hR8) ?_
 obtain ⟨v13,ev13,hv13⟩:=(Yv (rr hcx1))
 refine Y6 13 rfl (Ql v13 Z2 rfl (Ym 0 rfl) ev13) hR8 ?_
 obtain ⟨r16,hr15,hz⟩:=Qb hz
 refine w1 2 rfl (Y1 (vs:=[v9]) (rv:=(fun M' u=>repL M' u r16)) cb53 (Zu rfl) hS (cloneOps_ok hS.agree hv9 hr15) ?_)
 intro u15 M15 w14 hx15 hu15 hS
 have f15:repL M15 u15 r16:=hu15
 replace hv10:=Qw hx15.1 hv10
 replace hG7:=Qc hG7 hx15
 refine Yr hS hG7 fun hR17=>wy 15 rfl (Qp K8 rfl) (fun _=>hR17) ?_
 obtain ⟨r20,hr19,hz⟩:=Qb hz
 refine w1 5 rfl (Zw (vs:=[v10]) (L:=[]) (R:=[.box b5 (Zr.zc GEntry) 30,.box b3 cx1 30]) (rv:=(fun M' u L' => ∃ v0,u=v0∧L'=[.row v0 3 1]∧repL M' v0 r20)) cb44 (Zu rfl) hS (hS.sel [0,1] (by decide) rfl) (fun hS=>Vk hS.agree hv10 hr19) ?_)
 rintro u19 M19 w18 L19 hx19 ⟨v0_19,rfl,hL19,f19_0⟩ hS
 replace hS:=hS _ hL19
 replace hv11:=Qw (hx15.1.trans hx19.1) hv11
 replace hG7:=Qc hG7 hx19
 refine Yr hS hG7 fun hR22 => ?_
 obtain ⟨r25,hr24,hz⟩:=Qb hz
 refine w1 8 rfl (Zw (vs:=[v11]) (L:=[]) (R:=[.row u19 3 1,.box b5 (Zr.zc GEntry) 30,.box b3 cx1 30]) (rv:=(fun M' u L' => ∃ v0,u=v0∧L'=[.row v0 3 1]∧repL M' v0 r25)) cb44 (Zu rfl) hS (hS.sel [0,1,2] (by decide) rfl) (fun hS=>Vk hS.agree hv11 hr24) ?_)
 rintro u24 M24 w23 L24 hx24 ⟨v0_24,rfl,hL24,f24_0⟩ hS
 replace hS:=hS _ hL24
 replace hv12:=Qw (hx15.1.trans (hx19.1.trans hx24.1)) hv12
 replace hG7:=Qc hG7 hx24
 refine Yr hS hG7 fun hR27 => ?_
 obtain ⟨r30,hr29,hz⟩:=Qb hz
 refine w1 11 rfl (Zw (vs:=[v12]) (L:=[]) (R:=[.row u24 3 1,.row u19 3 1,.box b5 (Zr.zc GEntry) 30,.box b3 cx1 30]) (rv:=(fun M' u L' => ∃ v0,u=v0∧L'=[.row v0 3 1]∧repL M' v0 r30)) cb44 (Zu rfl) hS (hS.sel [0,1,2,3] (by decide) rfl) (fun hS=>Vk hS.agree hv12 hr29) ?_)
 rintro u29 M29 w28 L29 hx29 ⟨v0_29,rfl,hL29,f29_0⟩ hS
 replace hS:=hS _ hL29
 replace hv13:=Qw (hx15.1.trans (hx19.1.trans (hx24.1.trans hx29.1))) hv13
 replace hG7:=Qc hG7 hx29
 refine Yr hS hG7 fun hR32 => ?_
 obtain ⟨r35,hr34,hz⟩:=Qb hz
 refine w1 14 rfl (Zw (vs:=[v13]) (L:=[]) (R:=[.row u29 3 1,.row u24 3 1,.row u19 3 1,.box b5 (Zr.zc GEntry) 30,.box b3 cx1 30]) (rv:=(fun M' u L' => ∃ v0,u=v0∧L'=[.row v0 3 1]∧repL M' v0 r35)) cb44 (Zu rfl) hS (hS.sel [0,1,2,3,4] (by decide) rfl) (fun hS=>Vk hS.agree hv13 hr34) ?_)
 rintro u34 M34 w33 L34 hx34 ⟨v0_34,rfl,hL34,f34_0⟩ hS
 replace hS:=hS _ hL34
 replace hcx1:=Rep.mono (hx15.1.trans (hx19.1.trans (hx24.1.trans (hx29.1.trans hx34.1)))) hcx1
 replace zb5:=Rep.mono (hx15.1.trans (hx19.1.trans (hx24.1.trans (hx29.1.trans hx34.1)))) zb5
 replace f15:=Qw (hx19.1.trans (hx24.1.trans (hx29.1.trans hx34.1))) f15
 replace f19_0:=Qw (hx24.1.trans (hx29.1.trans hx34.1)) f19_0
 replace f24_0:=Qw (hx29.1.trans hx34.1) f24_0
 replace f29_0:=Qw hx34.1 f29_0
 replace hE:=Qc hE (hx15.trans (hx19.trans (hx24.trans (hx29.trans hx34))))
 replace hG7:=Qc hG7 hx34
 refine Yr hS hG7 fun hR37 => ?_
 obtain ⟨d40,hd39,hz⟩:=Qb hz
 refine w1 16 rfl (Q8 5 1 hS rfl hcx1 rfl rfl (Q1 f15) (Q9 f15) rfl (GEntry.u1 (rr hcx1) (Lf (Vt (rr hcx1)) (Q1 f15))) hd39 ?_)
 intro cs39 w38 hb39 ha39 hs39 hS
 refine ⟨nB,?_⟩
 refine wy 17 rfl (Qp fa30_2 rfl) nB ?_
 obtain ⟨d43,hd42,hz⟩:=Qb hz
 refine w1 18 rfl (Q8 5 1 hS rfl hb39 rfl rfl (Q1 f19_0) (Q9 f19_0) rfl (GEntry.u2 (rr hb39) (Lf (Kd (rr hb39)) (Q1 f19_0))) hd42 ?_)
 intro cs42 w41 hb42 ha42 hs42 hS
 refine ⟨nB,?_⟩
 refine wy 19 rfl (Qp Jn rfl) nB ?_
 obtain ⟨d46,hd45,hz⟩:=Qb hz
 refine w1 20 rfl (Q8 5 1 hS rfl hb42 rfl rfl (Q1 f24_0) (Q9 f24_0) rfl (GEntry.u3 (rr hb42) (Lf (V2 (rr hb42)) (Q1 f24_0))) hd45 ?_)
 intro cs45 w44 hb45 ha45 hs45 hS
 refine ⟨nB,?_⟩
 refine wy 21 rfl (Qp Vp rfl) nB ?_
 obtain ⟨d49,hd48,hz⟩:=Qb hz
 refine w1 22 rfl (Q8 5 1 hS rfl hb45 rfl rfl (Q1 f29_0) (Q9 f29_0) rfl (Jf (rr hb45) (Lf (Yh (rr hb45)) (Q1 f29_0))) hd48 ?_)
 intro cs48 w47 hb48 ha48 hs48 hS
 refine ⟨nB,?_⟩
 refine wy 23 rfl (Qp V8 rfl) nB ?_
 obtain ⟨d52,hd51,hz⟩:=Qb hz
 refine w1 24 rfl (Q8 5 1 hS rfl hb48 rfl rfl (Q1 f34_0) (Q9 f34_0) rfl (Jg (rr hb48) (Lf (Yv (rr hb48)) (Q1 f34_0))) hd51 ?_)
 intro cs51 w50 hb51 ha51 hs51 hS
 refine ⟨nB,?_⟩
 refine wd (Qa ?_)
 refine Qh <|Qi ?_
 have ha53:=(rr hb51)
 refine Qd (Zg ta30 rfl (hS.bvB 5 rfl) (Rep.len ha53)) ?_
 obtain ⟨d56,hd55,hz⟩:=Qb hz
 refine Qu (Q8 4 6 hS rfl zb5 rfl rfl ha53 rfl rfl (Lf (rr zb5) ha53) hd55 ?_)
 intro cs55 w54 hb55 ha55 hs55 hS
 refine Qf (Qa ?_)
 cases hz
 exact Q4 (Jp (j:=4) rfl rfl (by rw [Rep.len hb55];exact ta30) hS rfl (Zj (Qm (Qm (Qm (Qm (Qm (Qm hS)))))) hE ⟨_,rfl,hb55⟩))
def clNode_l1 (fu:Nat) (x1:GCluster) (x2:Int):Nat→GNode→Int→Option (GNode × Bool)
 | 0,_,_=>none
 | n+1,d33,y34 =>
 (bif decide (y34<32) then
 (inR y34 32).bind fun _ =>
 (idxV d33.entries y34).bind fun x42 =>
 (ownedD fu x42).bind fun r47 =>
 (inR y34 32).bind fun _ =>
 (idxV d33.entries y34).bind fun x52 =>
 (setV d33.entries y34 r47).bind fun a54 =>
 (some ({ d33 with entries:=a54 }:GNode)).bind fun d56 =>
 (clNode_l1 fu x1 x2 n) d56 (IntKind.wrap .i64 (y34+1))
 else
 (inR x2 6).bind fun _ =>
 (idxV x1.down x2).bind fun x63 =>
 (some d33).bind fun d67 =>
 some (d67,x63))
def clNode_j1 (fu:Nat) (x1:GCluster) (x2:Int) (d9:GNode):Option (GNode × Bool) :=
 (inR x2 6).bind fun _ =>
 (idxV x1.nodes x2).bind fun x13 =>
 (some x13).bind fun d20 =>
 (cloneIntsD fu d20.order).bind fun r24 =>
 (some ({ d20 with order:=r24 }:GNode)).bind fun d28 =>
 clNode_l1 fu x1 x2 fu d28 0
def clNode_j2 (fu:Nat) (x1:GCluster) (x2:Int) (c73:Bool):Option (GNode × Bool) :=
 (bif c73 then
 (some ({ entries:=Zr.zd,order:=Zr.zd,values:=Zr.zd }:GNode)).bind fun d77 =>
 (some d77).bind fun d80 =>
 some (d80,false)
 else
 clNode_j1 fu x1 x2 (Zr.zd:GNode))
def clNodeD (fu:Nat) (x1:GCluster) (x2:Int):Option (GNode × Bool) :=
 (bif decide (x2<0) then
 clNode_j2 fu x1 x2 true
 else
 clNode_j2 fu x1 x2 (decide (x2≥6)))
set_option maxRecDepth 100000 in
set_option maxHeartbeats 4000000 in
theorem clNode_ok {M:Mm} {w:World} {bx1:Nat} {cx1:List Value} {x1:GCluster} {x2:Int} {fu:Nat} {r:GNode × Bool} (hS:St w (lentX [.box bx1 cx1 90]) M [.box bx1 cx1 90] w) (hcx1:rep M cx1 x1) (hz:clNodeD fu x1 x2=some r) :
    Calls Try.prog 17 #[.pointer (some ⟨bx1,0,none⟩),.int .i64 x2] w (GivesL M w [.box bx1 cx1 90] (fun M' u L' => ∃ c0,u = .tuple #[.agg c0.toArray,.bool r.2]∧L'=[.box bx1 cx1 90]∧rep M' c0 r.1)):=by
 refine Zh Try.func17 rfl 48 rfl rfl (by kernel_rfl) fun T hT => ?_
 have hT_0:T 0 = .pointer (some ⟨bx1,0,none⟩):=hT 0
 have hT_1:T 1 = .int .i64 x2:=hT 1
 clear hT
 have hE:=Qg w.heap.size (lentX [.box bx1 cx1 90]) M
 rw [clNodeD] at hz
 refine Qh <|Qi ?_
 refine Qu (Zf tz34 hS ?_)
 intro b4 w3 hb4 hS
 have zb4:rep M (Zr.zc GNode) (Zr.zd:GNode):=Zr.zr
 refine Qd (Qj (.bool false) rfl) ?_
 refine Qf (Qa ?_)
 refine Qz (fun T' w' => ∃ M6 cs8 d9,Mm.ext w.heap.size (lentX [.box bx1 cx1 90]) M M6∧St w (lentX [.box bx1 cx1 90]) M6 [.box b4 cs8 34,.box bx1 cx1 90] w'∧rep M6 cs8 d9∧T' 0 = .pointer (some ⟨bx1,0,none⟩)∧T' 1 = .int .i64 x2∧T' 4 = .pointer (some ⟨b4,0,none⟩)∧clNode_j1 fu x1 x2 d9=some r) ?_ ?_
 have hF69:=Qg w.heap.size (lentX [.box bx1 cx1 90]) M
 refine Qz (fun T' w' => ∃ M71 c73,Mm.ext w.heap.size (lentX [.box bx1 cx1 90]) M M71∧St w (lentX [.box bx1 cx1 90]) M71 [.box b4 (Zr.zc GNode) 34,.box bx1 cx1 90] w'∧T' 0 = .pointer (some ⟨bx1,0,none⟩)∧T' 1 = .int .i64 x2∧T' 4 = .pointer (some ⟨b4,0,none⟩)∧T' 17 = .bool c73∧clNode_j2 fu x1 x2 c73=some r) ?_ ?_
 have hF81:=Qg w.heap.size (lentX [.box bx1 cx1 90]) M
 refine Qi <|Qd (Qe (.pointer (some ⟨bx1,0,none⟩)) hT_0) <|Qd (Y_eqNil rfl rfl Vm) <|Qd (Qe (.bool false) rfl) <|Qk rfl rfl (Qe (.int .i64 x2) hT_1) <|Qk rfl rfl (Zq rfl rfl) <|Q2 2 rfl ?_
 rcases ic hz with ⟨hc82,hz⟩ | ⟨hc82,hz⟩<;>rw [hc82]
 refine Q2 3 rfl ?_
 refine Qf (Qa ?_)
 exact ⟨M,true,hF81,hS,hT_0,hT_1,rfl,rfl,hz⟩
 refine Qk rfl rfl (Qe (.int .i64 x2) hT_1) <|Qk rfl rfl (Va rfl rfl) <|Qd (Ze (.bool (decide (x2≥6))) rfl rfl) ?_
 refine Qf (Qa ?_)
 exact ⟨M,(decide (x2≥6)),hF81,hS,hT_0,hT_1,rfl,rfl,hz⟩
 rintro T72 w70 ⟨M71,c73,hx74,hS,hT72_0,hT72_1,hT72_4,hT72_17,hz⟩
 replace zb4:=Rep.mono hx74.1 zb4
 replace hE:=Qc hE hx74
 replace hF69:=Qc hF69 hx74
 rw [clNode_j2] at hz
 refine Qr hT72_17 (fun hc75 => ?_) (fun hc75 => ?_)
 replace hz:=Qn hz hc75
 refine Qh <|Qi ?_
 obtain ⟨d77,hd76,hz⟩:=Qb hz
 obtain ⟨cs76,hf76,ha76⟩ : ∃ cs,fillZ (([(0,192),(192,1),(193,8)]:List (Nat × Nat))[·]?) (Zr.zc GNode) []=some cs∧rep M71 cs d77:=⟨_,Z8,Z9 (x:=({ entries:=Zr.zd,order:=Zr.zd,values:=Zr.zd }:GNode)) (Zr.zr:rep M71 (Zr.zc GNode) (Zr.zd:GNode)) hd76⟩
 refine Qd (Zx [] tb34 Vf hf76) ?_
 obtain ⟨d80,hd79,hz⟩:=Qb hz
 refine Qu (Q8 0 201 hS rfl zb4 hT72_4 rfl ha76 rfl rfl (Lf (rr zb4) ha76) hd79 ?_)
 intro cs79 w78 hb79 ha79 hs79 hS
 refine Qd (Qj (.bool false) rfl) ?_
 refine Qf (Qa ?_)
 cases hz
 exact Q4 (Qs (R_ct (j:=0) rfl hT72_4 rfl (by rw [Rep.len hb79];exact Vc) hS rfl ⟨_,M71,_,rfl,hE,(hS.sel (H':=[.box bx1 cx1 90]) [1] (by decide) rfl),cs79,rfl,rfl,hb79⟩))
 replace hz:=Qo hz hc75
 refine Qv (Qa ?_)
 exact ⟨M71,(Zr.zc GNode),(Zr.zd:GNode),hF69,hS,zb4,hT72_0,hT72_1,hT72_4,hz⟩
 rintro T7 w5 ⟨M6,cs8,d9,hx10,hS,hb8,hT7_0,hT7_1,hT7_4,hz⟩
 replace hcx1:=Rep.mono hx10.1 hcx1
 rw [clNode_j1] at hz
 refine Qh <|Qi <|Qd (Qe (.pointer (some ⟨bx1,0,none⟩)) hT7_0) <|Qd (Qe (.int .i64 x2) hT7_1) <|Qd (Q6 rfl) <|Qd (Qp fa90_0 rfl) ?_
 obtain ⟨u11,hx12,hz⟩:=Qb hz
 obtain ⟨hx12a,hx12b⟩:=Qt hx12
 refine Qd (Za ia86 rfl rfl hx12a hx12b) ?_
 obtain ⟨x13,hx14,hz⟩:=Qb hz
 have ha15:=(vp (k:=201) rfl rfl (Yz (rr hcx1)) hx14)
 refine Qd (Zg Vc rfl (hS.bvB 1 rfl) (Rep.len ha15)) ?_
 refine Qu (Zf tz34 hS ?_)
 intro b17 w16 hb17 hS
 have zb17:rep M6 (Zr.zc GNode) (Zr.zd:GNode):=Zr.zr
 obtain ⟨d20,hd19,hz⟩:=Qb hz
 refine Qu (Q8 0 201 hS rfl zb17 rfl rfl ha15 rfl rfl (Lf (rr zb17) ha15) hd19 ?_)
 intro cs19 w18 hb19 ha19 hs19 hS
 refine Qf (Qa ?_)
 refine Qh <|Qi <|Qd (Qp K0 rfl) ?_
 obtain ⟨v21,ev21,hv21⟩:=(Vz (rr hb19))
 refine Qd (Ql v21 Z2 rfl (hS.bvB 0 rfl) ev21) ?_
 obtain ⟨r24,hr23,hz⟩:=Qb hz
 refine Qu (Zw (vs:=[v21]) (L:=[]) (R:=[.box b17 cs19 34,.box b4 cs8 34,.box bx1 cx1 90]) (rv:=(fun M' u L' => ∃ v0,u=v0∧L'=[.row v0 3 1]∧repL M' v0 r24)) cb44 (Zu rfl) hS (hS.sel [0,1,2] (by decide) rfl) (fun hS=>Vk hS.agree hv21 hr23) ?_)
 rintro u23 M23 w22 L23 hx23 ⟨v0_23,rfl,hL23,f23_0⟩ hS
 replace hS:=hS _ hL23
 replace hcx1:=Rep.mono hx23.1 hcx1
 replace hb8:=Rep.mono hx23.1 hb8
 replace hb19:=Rep.mono hx23.1 hb19
 replace hE:=Qc hE (hx10.trans hx23)
 refine Qd (Qp K0 rfl) ?_
 obtain ⟨d28,hd27,hz⟩:=Qb hz
 refine Qu (Q8 1 1 hS rfl hb19 rfl rfl (Q1 f23_0) (Q9 f23_0) rfl (GNode.u1 (rr hb19) (Lf (Vz (rr hb19)) (Q1 f23_0))) hd27 ?_)
 intro cs27 w26 hb27 ha27 hs27 hS
 refine Qf (Qa ?_)
 refine Qh <|Qh <|Qi <|Qd (Qe (.int .i64 0) rfl) ?_
 refine Qf (Qa ?_)
 refine Qy ?_
 refine Zy (fun k36 T' w' => ∃ M30 cs32 d33 y34,Mm.ext w.heap.size (lentX [.box bx1 cx1 90]) M23 M30∧St w (lentX [.box bx1 cx1 90]) M30 [.row u23 3 1,.box b17 cs32 34,.box b4 cs8 34,.box bx1 cx1 90] w'∧rep M30 cs32 d33∧T' 0 = .pointer (some ⟨bx1,0,none⟩)∧T' 1 = .int .i64 x2∧T' 4 = .pointer (some ⟨b4,0,none⟩)∧T' 6 = .pointer (some ⟨b17,0,none⟩)∧T' 29 = .int .i64 y34∧clNode_l1 fu x1 x2 k36 d33 y34=some r) fu ?_ ?_ ?_
 exact ⟨M23,cs27,d28,(0:Int),(Qg _ _ _),hS,hb27,hT7_0,hT7_1,hT7_4,rfl,rfl,hz⟩
 rintro T' w' ⟨_,_,_,_,_,_,_,_,_,_,_,_,hz⟩
 rw [clNode_l1] at hz
 cases hz
 intro k36
 rintro T31 w29 ⟨M30,cs32,d33,y34,hx38,hS,hb32,hT31_0,hT31_1,hT31_4,hT31_6,hT31_29,hz⟩
 replace hcx1:=Rep.mono hx38.1 hcx1
 replace hb8:=Rep.mono hx38.1 hb8
 replace hE:=Qc hE hx38
 have hF37:=hx38
 rw [clNode_l1] at hz
 obtain ⟨rec35,hrec35⟩ : ∃ f,f=clNode_l1 fu x1 x2 k36:=⟨_,rfl⟩
 rw [← hrec35] at hz
 refine Qh <|Qi <|Qd (Zq hT31_29 rfl) ?_
 refine Qf (Qa ?_)
 refine Qh ?_
 refine Qr rfl (fun hc39 => ?_) (fun hc39 => ?_)
 replace hz:=Qn hz hc39
 refine Qv (Qa ?_)
 refine Qh <|Qy <|Qh <|Qi <|Qd (Qe (.int .i64 y34) hT31_29) <|Qd (Qj (.int .i64 y34) rfl) ?_
 refine Qf (Qa ?_)
 refine Qi <|Q2 2 rfl <|Qd (Qp Kk hT31_6) ?_
 obtain ⟨u40,hx41,hz⟩:=Qb hz
 obtain ⟨hx41a,hx41b⟩:=Qt hx41
 refine Qd (Za ia31 rfl rfl hx41a hx41b) ?_
 obtain ⟨x42,hx43,hz⟩:=Qb hz
 have ha44:=(vp (k:=6) rfl rfl (Q5 (rr hb32)) hx43)
 refine Qd (Zg ta30 rfl (hS.bvB 1 rfl) (Rep.len ha44)) ?_
 obtain ⟨r47,hr46,hz⟩:=Qb hz
 refine Qu (Y1 (vs:=[.agg (sl cs32 (0+0+Int.toNat y34*6) 6).toArray]) (rv:=(fun M' u => ∃ cs,u = .agg cs.toArray∧rep M' cs r47)) cb45 (Zu rfl) hS (owned_ok hS.agree ha44 hr46) ?_)
 intro u46 M46 w45 hx46 hu46 hS
 obtain ⟨c46,hq46,f46⟩:=hu46
 subst hq46
 replace hb32:=Rep.mono hx46.1 hb32
 replace hF37:=Qc hF37 hx46
 refine Qd (Qp Kk hT31_6) ?_
 obtain ⟨u48,hx49,hz⟩:=Qb hz
 obtain ⟨hx49a,hx49b⟩:=Qt hx49
 refine Qd (Za ia31 rfl rfl hx49a hx49b) ?_
 obtain ⟨x52,hx53,hz⟩:=Qb hz
 obtain ⟨a54,hx55,hz⟩:=Qb hz
 obtain ⟨d56,hd51,hz⟩:=Qb hz
 refine Qu (Q8 1 6 hS rfl hb32 rfl rfl f46 rfl rfl (Yy (rr hb32) (vu (k:=6) rfl rfl (Q5 (rr hb32)) (Lf (vp (k:=6) rfl rfl (Q5 (rr hb32)) hx53) f46) hx55)) hd51 ?_)
 intro cs51 w50 hb51 ha51 hs51 hS
 refine Qf (Q7 ?_)
 refine (Qa ?_)
 refine Qi <|Qd (Zz hT31_29 rfl) <|Qd (Qe (.int .i64 (IntKind.wrap .i64 (y34+1))) rfl) ?_
 refine Qf (Qa ?_)
 exact ⟨M46,cs51,d56,(IntKind.wrap .i64 (y34+1)),hF37,hS,hb51,hT31_0,hT31_1,hT31_4,hT31_6,rfl,(by rw [← hrec35];exact hz)⟩
 replace hz:=Qo hz hc39
 refine Zs <|Q0 <|Q0 <|Zt ?_
 refine (Qa ?_)
 refine Qh <|Yt [.box b17 cs32 34,.box bx1 cx1 90] [] Z6 hS fun w57 hS hG58 hR59 => ?_
 have ha60:=(rr hb32)
 refine Y6 0 rfl (Zg Vc hT31_6 (Ym 0 rfl) (Rep.len ha60)) hR59 <|wy 1 rfl (Qe (.pointer (some ⟨bx1,0,none⟩)) hT31_0) (fun _=>hR59) <|wy 2 rfl (Qe (.int .i64 x2) hT31_1) (fun _=>hR59) <|wy 3 rfl (Q6 rfl) (fun _=>hR59) <|wy 4 rfl (Qp fa90_2 rfl) (fun _=>hR59) ?_
 obtain ⟨u61,hx62,hz⟩:=Qb hz
 obtain ⟨hx62a,hx62b⟩:=Qt hx62
 refine wy 5 rfl (Za Jq rfl rfl hx62a hx62b) (fun _=>hR59) ?_
 obtain ⟨x63,hx64,hz⟩:=Qb hz
 refine Y6 6 rfl (Ql (.bool x63) Jk rfl (Ym 1 rfl) (vp (k:=1) rfl rfl (Y4 (rr hcx1)) hx64)) hR59 ?_
 obtain ⟨d67,hd66,hz⟩:=Qb hz
 refine w1 7 rfl (Q8 2 201 hS rfl hb8 hT31_4 rfl ha60 rfl rfl (Lf (rr hb8) ha60) hd66 ?_)
 intro cs66 w65 hb66 ha66 hs66 hS
 refine Yr hS hG58 fun hR68=>wy 8 rfl (Qj (.bool x63) rfl) (fun _=>hR68) ?_
 refine wd (Qa ?_)
 cases hz
 exact Q4 (R_ct (j:=2) rfl hT31_4 rfl (by rw [Rep.len hb66];exact Vc) hS rfl ⟨_,M30,_,rfl,hE,(hS.sel (H':=[.box bx1 cx1 90]) [3] (by decide) rfl),cs66,rfl,rfl,hb66⟩)
def clCase_j1 (fu:Nat) (x1:GCluster) (x2:Int) (d9:GCase):Option GCase :=
 (inR x2 32).bind fun _ =>
 (idxV x1.cases x2).bind fun x13 =>
 (some x13).bind fun d20 =>
 (cloneOpsD fu d20.ops).bind fun r28 =>
 (cloneIntsD fu d20.deps).bind fun r32 =>
 (some ({ d20 with ops:=r28 }:GCase)).bind fun d37 =>
 (some ({ d37 with deps:=r32 }:GCase)).bind fun d40 =>
 (some d40).bind fun d44 =>
 some d44
def clCase_j2 (fu:Nat) (x1:GCluster) (x2:Int) (c49:Bool):Option GCase :=
 (bif c49 then
 (some ({ begun:=Zr.zd,fixed:=Zr.zd,ops:=Zr.zd,told:=Zr.zd,known:=Zr.zd,deps:=Zr.zd,has:=Zr.zd,values:=Zr.zd }:GCase)).bind fun d53 =>
 (some d53).bind fun d56 =>
 some d56
 else
 clCase_j1 fu x1 x2 (Zr.zd:GCase))
def clCaseD (fu:Nat) (x1:GCluster) (x2:Int):Option GCase :=
 (bif decide (x2<0) then
 clCase_j2 fu x1 x2 true
 else
 clCase_j2 fu x1 x2 (decide (x2≥32)))
set_option maxRecDepth 100000 in
set_option maxHeartbeats 4000000 in
theorem clCase_ok {M:Mm} {w:World} {bx1:Nat} {cx1:List Value} {x1:GCluster} {x2:Int} {fu:Nat} {r:GCase} (hS:St w (lentX [.box bx1 cx1 90]) M [.box bx1 cx1 90] w) (hcx1:rep M cx1 x1) (hz:clCaseD fu x1 x2=some r) :
    Calls Try.prog 20 #[.pointer (some ⟨bx1,0,none⟩),.int .i64 x2] w (GivesL M w [.box bx1 cx1 90] (fun M' u L' => ∃ c0,u = .agg c0.toArray∧L'=[.box bx1 cx1 90]∧rep M' c0 r)):=by
 refine Zh Try.func20 rfl 32 rfl rfl (by kernel_rfl) fun T hT => ?_
 have hT_0:T 0 = .pointer (some ⟨bx1,0,none⟩):=hT 0
 have hT_1:T 1 = .int .i64 x2:=hT 1
 clear hT
 have hE:=Qg w.heap.size (lentX [.box bx1 cx1 90]) M
 rw [clCaseD] at hz
 refine Qh <|Qi ?_
 refine Qu (Zf tz49 hS ?_)
 intro b4 w3 hb4 hS
 have zb4:rep M (Zr.zc GCase) (Zr.zd:GCase):=Zr.zr
 refine Qf (Qa ?_)
 refine Qz (fun T' w' => ∃ M6 cs8 d9,Mm.ext w.heap.size (lentX [.box bx1 cx1 90]) M M6∧St w (lentX [.box bx1 cx1 90]) M6 [.box b4 cs8 49,.box bx1 cx1 90] w'∧rep M6 cs8 d9∧T' 0 = .pointer (some ⟨bx1,0,none⟩)∧T' 1 = .int .i64 x2∧T' 4 = .pointer (some ⟨b4,0,none⟩)∧clCase_j1 fu x1 x2 d9=some r) ?_ ?_
 have hF45:=Qg w.heap.size (lentX [.box bx1 cx1 90]) M
 refine Qz (fun T' w' => ∃ M47 c49,Mm.ext w.heap.size (lentX [.box bx1 cx1 90]) M M47∧St w (lentX [.box bx1 cx1 90]) M47 [.box b4 (Zr.zc GCase) 49,.box bx1 cx1 90] w'∧T' 0 = .pointer (some ⟨bx1,0,none⟩)∧T' 1 = .int .i64 x2∧T' 4 = .pointer (some ⟨b4,0,none⟩)∧T' 15 = .bool c49∧clCase_j2 fu x1 x2 c49=some r) ?_ ?_
 have hF57:=Qg w.heap.size (lentX [.box bx1 cx1 90]) M
 refine Qi <|Qd (Qe (.pointer (some ⟨bx1,0,none⟩)) hT_0) <|Qd (Y_eqNil rfl rfl Vm) <|Qd (Qe (.bool false) rfl) <|Qk rfl rfl (Qe (.int .i64 x2) hT_1) <|Qk rfl rfl (Zq rfl rfl) <|Q2 2 rfl ?_
 rcases ic hz with ⟨hc58,hz⟩ | ⟨hc58,hz⟩<;>rw [hc58]
 refine Q2 3 rfl ?_
 refine Qf (Qa ?_)
 exact ⟨M,true,hF57,hS,hT_0,hT_1,rfl,rfl,hz⟩
 refine Qk rfl rfl (Qe (.int .i64 x2) hT_1) <|Qk rfl rfl (Va rfl rfl) <|Qd (Ze (.bool (decide (x2≥32))) rfl rfl) ?_
 refine Qf (Qa ?_)
 exact ⟨M,(decide (x2≥32)),hF57,hS,hT_0,hT_1,rfl,rfl,hz⟩
 rintro T48 w46 ⟨M47,c49,hx50,hS,hT48_0,hT48_1,hT48_4,hT48_15,hz⟩
 replace zb4:=Rep.mono hx50.1 zb4
 replace hE:=Qc hE hx50
 replace hF45:=Qc hF45 hx50
 rw [clCase_j2] at hz
 refine Qr hT48_15 (fun hc51 => ?_) (fun hc51 => ?_)
 replace hz:=Qn hz hc51
 refine Qh <|Qi ?_
 obtain ⟨d53,hd52,hz⟩:=Qb hz
 obtain ⟨cs52,hf52,ha52⟩ : ∃ cs,fillZ (([(0,1),(1,1),(2,1),(3,6),(9,6),(15,1),(16,4),(20,4)]:List (Nat × Nat))[·]?) (Zr.zc GCase) []=some cs∧rep M47 cs d53:=⟨_,Z8,Z9 (x:=({ begun:=Zr.zd,fixed:=Zr.zd,ops:=Zr.zd,told:=Zr.zd,known:=Zr.zd,deps:=Zr.zd,has:=Zr.zd,values:=Zr.zd }:GCase)) (Zr.zr:rep M47 (Zr.zc GCase) (Zr.zd:GCase)) hd52⟩
 refine Qd (Zx [] tb49 Vf hf52) ?_
 obtain ⟨d56,hd55,hz⟩:=Qb hz
 refine Qu (Q8 0 24 hS rfl zb4 hT48_4 rfl ha52 rfl rfl (Lf (rr zb4) ha52) hd55 ?_)
 intro cs55 w54 hb55 ha55 hs55 hS
 refine Qf (Qa ?_)
 cases hz
 exact Q4 (Qs (Jp (j:=0) rfl hT48_4 (by rw [Rep.len hb55];exact Vb) hS rfl ⟨_,M47,_,rfl,hE,(hS.sel (H':=[.box bx1 cx1 90]) [1] (by decide) rfl),cs55,rfl,rfl,hb55⟩))
 replace hz:=Qo hz hc51
 refine Qv (Qa ?_)
 exact ⟨M47,(Zr.zc GCase),(Zr.zd:GCase),hF45,hS,zb4,hT48_0,hT48_1,hT48_4,hz⟩
 rintro T7 w5 ⟨M6,cs8,d9,hx10,hS,hb8,hT7_0,hT7_1,hT7_4,hz⟩
 replace hcx1:=Rep.mono hx10.1 hcx1
 rw [clCase_j1] at hz
 refine Qh <|Qi <|Qd (Qe (.pointer (some ⟨bx1,0,none⟩)) hT7_0) <|Qd (Qe (.int .i64 x2) hT7_1) <|Qd (Q6 rfl) <|Qd (Qp fa90_4 rfl) ?_
 obtain ⟨u11,hx12,hz⟩:=Qb hz
 obtain ⟨hx12a,hx12b⟩:=Qt hx12
 refine Qd (Za ia88 rfl rfl hx12a hx12b) ?_
 obtain ⟨x13,hx14,hz⟩:=Qb hz
 have ha15:=(vp (k:=24) rfl rfl (Vd (rr hcx1)) hx14)
 refine Qd (Zg Vb rfl (hS.bvB 1 rfl) (Rep.len ha15)) ?_
 refine Qu (Zf tz49 hS ?_)
 intro b17 w16 hb17 hS
 have zb17:rep M6 (Zr.zc GCase) (Zr.zd:GCase):=Zr.zr
 obtain ⟨d20,hd19,hz⟩:=Qb hz
 refine Qu (Q8 0 24 hS rfl zb17 rfl rfl ha15 rfl rfl (Lf (rr zb17) ha15) hd19 ?_)
 intro cs19 w18 hb19 ha19 hs19 hS
 refine Qf (Qa ?_)
 refine Qh <|Yt [.box b17 cs19 49] [7,9] Z6 hS fun w21 hS hG22 hR23=>wy 0 rfl (Qp Vy rfl) (fun _=>hR23) ?_
 obtain ⟨v24,ev24,hv24⟩:=(Yw (rr hb19))
 refine Y6 1 rfl (Ql v24 Vn rfl (Ym 0 rfl) ev24) hR23 <|wy 3 rfl (Qp K6 rfl) (fun _=>hR23) ?_
 obtain ⟨v25,ev25,hv25⟩:=(V7 (rr hb19))
 refine Y6 4 rfl (Ql v25 Z2 rfl (Ym 0 rfl) ev25) hR23 ?_
 obtain ⟨r28,hr27,hz⟩:=Qb hz
 refine w1 2 rfl (Y1 (vs:=[v24]) (rv:=(fun M' u=>repL M' u r28)) cb53 (Zu rfl) hS (cloneOps_ok hS.agree hv24 hr27) ?_)
 intro u27 M27 w26 hx27 hu27 hS
 have f27:repL M27 u27 r28:=hu27
 replace hv25:=Qw hx27.1 hv25
 replace hG22:=Qc hG22 hx27
 refine Yr hS hG22 fun hR29=>wy 6 rfl (Qp Vy rfl) (fun _=>hR29) ?_
 obtain ⟨r32,hr31,hz⟩:=Qb hz
 refine w1 5 rfl (Zw (vs:=[v25]) (L:=[]) (R:=[.box b17 cs19 49,.box b4 cs8 49,.box bx1 cx1 90]) (rv:=(fun M' u L' => ∃ v0,u=v0∧L'=[.row v0 3 1]∧repL M' v0 r32)) cb44 (Zu rfl) hS (hS.sel [0,1,2] (by decide) rfl) (fun hS=>Vk hS.agree hv25 hr31) ?_)
 rintro u31 M31 w30 L31 hx31 ⟨v0_31,rfl,hL31,f31_0⟩ hS
 replace hS:=hS _ hL31
 replace hb8:=Rep.mono (hx27.1.trans hx31.1) hb8
 replace hb19:=Rep.mono (hx27.1.trans hx31.1) hb19
 replace f27:=Qw hx31.1 f27
 replace hE:=Qc hE (hx10.trans (hx27.trans hx31))
 replace hG22:=Qc hG22 hx31
 refine Yr hS hG22 fun hR34 => ?_
 obtain ⟨d37,hd36,hz⟩:=Qb hz
 refine w1 7 rfl (Q8 1 1 hS rfl hb19 rfl rfl (Q1 f27) (Q9 f27) rfl (GCase.u2 (rr hb19) (Lf (Yw (rr hb19)) (Q1 f27))) hd36 ?_)
 intro cs36 w35 hb36 ha36 hs36 hS
 refine ⟨nB,?_⟩
 refine wy 8 rfl (Qp K6 rfl) nB ?_
 obtain ⟨d40,hd39,hz⟩:=Qb hz
 refine w1 9 rfl (Q8 1 1 hS rfl hb36 rfl rfl (Q1 f31_0) (Q9 f31_0) rfl (GCase.u5 (rr hb36) (Lf (V7 (rr hb36)) (Q1 f31_0))) hd39 ?_)
 intro cs39 w38 hb39 ha39 hs39 hS
 refine ⟨nB,?_⟩
 refine wd (Qa ?_)
 refine Qh <|Qi ?_
 have ha41:=(rr hb39)
 refine Qd (Zg Vb rfl (hS.bvB 1 rfl) (Rep.len ha41)) ?_
 obtain ⟨d44,hd43,hz⟩:=Qb hz
 refine Qu (Q8 2 24 hS rfl hb8 hT7_4 rfl ha41 rfl rfl (Lf (rr hb8) ha41) hd43 ?_)
 intro cs43 w42 hb43 ha43 hs43 hS
 refine Qf (Qa ?_)
 cases hz
 exact Q4 (Jp (j:=2) rfl hT7_4 (by rw [Rep.len hb43];exact Vb) hS rfl ⟨_,M31,_,rfl,hE,(hS.sel (H':=[.box bx1 cx1 90]) [3] (by decide) rfl),cs43,rfl,rfl,hb43⟩)
def clNetD (fu:Nat) (x1:GCluster) (l3:List ByteArray):Option ((List ByteArray) × (List ByteArray)) :=
 (cloneStrsD fu l3).bind fun l6 =>
 some (l6,l3)
set_option maxRecDepth 100000 in
set_option maxHeartbeats 4000000 in
theorem clNet_ok {M:Mm} {w:World} {bx1:Nat} {cx1:List Value} {ux1_6:Value} {xsx1_6:List Value} {x1:GCluster} {l3:List ByteArray} {fu:Nat} {r:(List ByteArray) × (List ByteArray)} (hS:St w (lentX [.box bx1 cx1 90,.stk ux1_6 9 1 xsx1_6]) M [.box bx1 cx1 90,.stk ux1_6 9 1 xsx1_6] w) (hcx1:rep M cx1 x1) (hkx1_6:skr M ux1_6 xsx1_6 l3) (hpx1_6:sl cx1 1993 1=[ux1_6]) (hz:clNetD fu x1 l3=some r) :
    Calls Try.prog 32 #[.pointer (some ⟨bx1,0,none⟩)] w (GivesL M w [.box bx1 cx1 90,.stk ux1_6 9 1 xsx1_6] (fun M' u L' => ∃ v0 u1 x1,u=v0∧L'=[.box bx1 cx1 90,.stk u1 9 1 x1]∧repL M' v0 r.1∧skr M' u1 x1 r.2∧sl cx1 1993 1=[u1])):=by
 refine Zh Try.func32 rfl 10 rfl rfl (by kernel_rfl) fun T hT => ?_
 have hT_0:T 0 = .pointer (some ⟨bx1,0,none⟩):=hT 0
 clear hT
 have hE:=Qg w.heap.size (lentX [.box bx1 cx1 90,.stk ux1_6 9 1 xsx1_6]) M
 rw [clNetD] at hz
 refine Qh <|Qi <|Qd (Qj ((.slice none 0 0)) rfl) ?_
 refine Qf (Qa ?_)
 refine Qh <|Qh <|Qi <|Qd (Qe (.pointer (some ⟨bx1,0,none⟩)) hT_0) <|Qd (Y_eqNil rfl rfl Vm) ?_
 refine Qf (Qa ?_)
 refine W_cond_f rfl ?_
 refine Qv (Qa ?_)
 refine Qh <|Qi <|Qd (Qe (.pointer (some ⟨bx1,0,none⟩)) hT_0) <|Qd (Q6 rfl) <|Qd (Qp Jo rfl) <|Qd (Ql ux1_6 ts72 rfl (hS.bvB 0 rfl) hpx1_6) ?_
 obtain ⟨l6,hr5,hz⟩:=Qb hz
 refine Qu (O_lentS (j:=1) cb59 (Zu rfl) hS rfl hkx1_6 (fun hA hv=>cloneStrs_ok hA hv hr5) ?_)
 intro v5 M5 w4 hx5 hv5 hS
 replace hkx1_6:=Zm hx5.1 hkx1_6
 replace hE:=Qc hE hx5
 refine Qd (Qj (v5) rfl) ?_
 refine Qf (Qa ?_)
 cases hz
 exact Q4 (Yj rfl rfl ⟨_,M5,_,rfl,hE,(hS.sel (H':=[.box bx1 cx1 90,.stk ux1_6 9 1 xsx1_6]) [1,2] (by decide) rfl),v5,ux1_6,xsx1_6,rfl,rfl,hv5,hkx1_6,hpx1_6⟩)
def clNoD (fu:Nat) (x1:Int):Option GReply :=
 (some ({ code:=x1,n:=Zr.zd,values:=Zr.zd }:GReply)).bind fun d5 =>
 (some d5).bind fun d8 =>
 some d8
set_option maxRecDepth 100000 in
set_option maxHeartbeats 4000000 in
theorem clNo_ok {M:Mm} {w:World} {x1:Int} {fu:Nat} {r:GReply} (hA:Agree M w)  (hz:clNoD fu x1=some r) :
    Calls Try.prog 46 #[.int .i64 x1] w (Gives M w (fun M' u => ∃ cs,u = .agg cs.toArray∧rep M' cs r)):=by
 refine Zh Try.func46 rfl 5 rfl rfl (by kernel_rfl) fun T hT => ?_
 have hT_0:T 0 = .int .i64 x1:=hT 0
 clear hT
 have hE:=Qg w.heap.size noX M
 have hS:St w noX M [] w:=Zv hA
 rw [clNoD] at hz
 refine Qh <|Qi ?_
 refine Qu (Zf tz40 hS ?_)
 intro b3 w2 hb3 hS
 have zb3:rep M (Zr.zc GReply) (Zr.zd:GReply):=Zr.zr
 refine Qf (Qa ?_)
 refine Qh <|Qi <|Qd (Qe (.int .i64 x1) hT_0) ?_
 have k4_0:=V3 (Zr.zr:rep M (Zr.zc GReply) (Zr.zd:GReply)) (ri x1:rep M _ _)
 obtain ⟨d5,hd4,hz⟩:=Qb hz
 obtain ⟨cs4,hf4,ha4⟩ : ∃ cs,fillZ (([(0,1),(1,1),(2,1)]:List (Nat × Nat))[·]?) (Zr.zc GReply) [(0,.int .i64 x1)]=some cs∧rep M cs d5:=⟨_,(Zb (Zr.zr:rep M (Zr.zc GReply) (Zr.zd:GReply)) rfl rfl (Rep.len (ri x1:rep M _ _)) (by decide) Z8),Z9 (x:=({ code:=x1,n:=Zr.zd,values:=Zr.zd }:GReply)) k4_0 hd4⟩
 refine Qd (Zx [(0,.int .i64 x1)] tb40 (Ys rfl Vf) hf4) ?_
 obtain ⟨d8,hd7,hz⟩:=Qb hz
 refine Qu (Q8 0 3 hS rfl zb3 rfl rfl ha4 rfl rfl (Lf (rr zb3) ha4) hd7 ?_)
 intro cs7 w6 hb7 ha7 hs7 hS
 refine Qf (Qa ?_)
 cases hz
 exact Q4 (Jp (j:=0) rfl rfl (by rw [Rep.len hb7];exact Kr) hS rfl (Zj (Qm hS) hE ⟨_,rfl,hb7⟩))
def clSend_j1 (y16:Int) (rec17:GCluster→(List ByteArray)→Int→Option (GCluster × (List ByteArray))) (d26:GCluster) (l29:List ByteArray):Option (GCluster × (List ByteArray)) :=
 rec17 d26 l29 (IntKind.wrap .i64 (y16+1))
def clSend_j2 (d10:GCluster) (l13:List ByteArray) (y16:Int) (rec17:GCluster→(List ByteArray)→Int→Option (GCluster × (List ByteArray))) (r45:ByteArray × Int) (c49:Bool):Option (GCluster × (List ByteArray)) :=
 (bif c49 then
 (chkS r45.1).bind fun _ =>
 (app l13 ([r45.1]:List ByteArray)).bind fun l57 =>
 (some ({ d10 with net:=Hole.mk }:GCluster)).bind fun d60 =>
 clSend_j1 y16 rec17 d60 l57
 else
 clSend_j1 y16 rec17 d10 l13)
def clSend_l1 (fu:Nat) (x4:List GFrame):Nat→GCluster→(List ByteArray)→Int→Option (GCluster × (List ByteArray))
 | 0,_,_,_=>none
 | n+1,d10,l13,y16 =>
 (bif decide (y16<(x4.length:Int)) then
 (idx x4 y16).bind fun x35 =>
 (some x35).bind fun d41 =>
 (encodeD fu d41).bind fun r45 =>
 (bif r45.2==0 then
 clSend_j2 d10 l13 y16 (clSend_l1 fu x4 n) r45 (decide ((l13.length:Int)<60))
 else
 clSend_j2 d10 l13 y16 (clSend_l1 fu x4 n) r45 false)
 else
 some (d10,l13))
def clSendD (fu:Nat) (x1:GCluster) (l3:List ByteArray) (x4:List GFrame):Option (GCluster × (List ByteArray)) :=
 clSend_l1 fu x4 fu x1 l3 0
set_option maxRecDepth 100000 in
set_option maxHeartbeats 4000000 in
theorem clSend_ok {M:Mm} {w:World} {bx1:Nat} {cx1:List Value} {ux1_6:Value} {xsx1_6:List Value} {vx4:Value} {x1:GCluster} {l3:List ByteArray} {x4:List GFrame} {fu:Nat} {r:GCluster × (List ByteArray)} (hS:St w (lentX [.box bx1 cx1 90,.stk ux1_6 9 1 xsx1_6]) M [.box bx1 cx1 90,.stk ux1_6 9 1 xsx1_6] w) (hcx1:rep M cx1 x1) (hkx1_6:skr M ux1_6 xsx1_6 l3) (hpx1_6:sl cx1 1993 1=[ux1_6]) (hvx4:repL M vx4 x4) (hz:clSendD fu x1 l3 x4=some r) :
    Calls Try.prog 49 #[.pointer (some ⟨bx1,0,none⟩),vx4] w (GivesL M w [.box bx1 cx1 90,.stk ux1_6 9 1 xsx1_6] (fun M' u L' => ∃ k0 u1 x1,u = .tuple #[]∧L'=[.box bx1 k0 90,.stk u1 9 1 x1]∧rep M' k0 r.1∧skr M' u1 x1 r.2∧sl k0 1993 1=[u1])):=by
 refine Zh Try.func49 rfl 40 rfl rfl (by kernel_rfl) fun T hT => ?_
 have hT_0:T 0 = .pointer (some ⟨bx1,0,none⟩):=hT 0
 have hT_1:T 1=vx4:=hT 1
 clear hT
 have hE:=Qg w.heap.size (lentX [.box bx1 cx1 90,.stk ux1_6 9 1 xsx1_6]) M
 rw [clSendD] at hz
 refine Qh <|Qi <|Qd (Qe (vx4) hT_1) ?_
 obtain ⟨a5,c5,hv5,_⟩:=Q3 hvx4
 refine Qd (Zk Try.underlying96 (Vw hv5 rfl)) <|Qd (Qe (.int .i64 0) rfl) ?_
 refine Qf (Qa ?_)
 refine Qy ?_
 refine Zy (fun k18 T' w' => ∃ M7 cs9 d10 v11 xs12 l13 y16,Mm.ext w.heap.size (lentX [.box bx1 cx1 90,.stk ux1_6 9 1 xsx1_6]) M M7∧St w (lentX [.box bx1 cx1 90,.stk ux1_6 9 1 xsx1_6]) M7 [.box bx1 cs9 90,.stk v11 9 1 xs12] w'∧rep M7 cs9 d10∧skr M7 v11 xs12 l13∧sl cs9 (0+1993) 1=[v11]∧T' 0 = .pointer (some ⟨bx1,0,none⟩)∧T' 8=vx4∧T' 9 = .int .i64 (x4.length:Int)∧T' 10 = .int .i64 y16∧clSend_l1 fu x4 k18 d10 l13 y16=some r) fu ?_ ?_ ?_
 exact ⟨M,cx1,x1,ux1_6,xsx1_6,l3,(0:Int),(Qg _ _ _),hS,hcx1,hkx1_6,hpx1_6,hT_0,rfl,rfl,rfl,hz⟩
 rintro T' w' ⟨_,_,_,_,_,_,_,_,_,_,_,_,_,_,_,_,hz⟩
 rw [clSend_l1] at hz
 cases hz
 intro k18
 rintro T8 w6 ⟨M7,cs9,d10,v11,xs12,l13,y16,hx20,hS,hb9,hk14,hp15,hT8_0,hT8_8,hT8_9,hT8_10,hz⟩
 replace hvx4:=Qw hx20.1 hvx4
 replace hE:=Qc hE hx20
 have hF19:=hx20
 rw [clSend_l1] at hz
 obtain ⟨rec17,hrec17⟩ : ∃ f,f=clSend_l1 fu x4 k18:=⟨_,rfl⟩
 rw [← hrec17] at hz
 refine Qh <|Qi <|Qd (Zq hT8_10 hT8_9) ?_
 refine Qf (Qa ?_)
 refine Qh ?_
 refine Qr rfl (fun hc21 => ?_) (fun hc21 => ?_)
 replace hz:=Qn hz hc21
 refine Qv (Qa ?_)
 refine Qz (fun T' w' => ∃ M23 cs25 d26 v27 xs28 l29,Mm.ext w.heap.size (lentX [.box bx1 cx1 90,.stk ux1_6 9 1 xsx1_6]) M7 M23∧St w (lentX [.box bx1 cx1 90,.stk ux1_6 9 1 xsx1_6]) M23 [.box bx1 cs25 90,.stk v27 9 1 xs28] w'∧rep M23 cs25 d26∧skr M23 v27 xs28 l29∧sl cs25 (0+1993) 1=[v27]∧T' 0 = .pointer (some ⟨bx1,0,none⟩)∧T' 8=vx4∧T' 9 = .int .i64 (x4.length:Int)∧T' 10 = .int .i64 y16∧clSend_j1 y16 rec17 d26 l29=some r) ?_ ?_
 have hF33:=Qg w.heap.size (lentX [.box bx1 cx1 90,.stk ux1_6 9 1 xsx1_6]) M7
 refine Qy <|Qh <|Qi ?_
 obtain ⟨x35,hx34,hz⟩:=Qb hz
 obtain ⟨b34,o34,c34,p34,hv34,hi34,hj34,hM34,hr34⟩:=Yd hvx4 hx34
 replace hr34:rep _ (sl p34 (o34+Int.toNat y16*7) 7) x35:=hr34
 refine Qd (Yq il96 hT8_8 hv34 hT8_10 hi34 hj34) ?_
 have ha36:=hr34
 refine Qd (Zg K4 rfl (hS.bvM hM34) (Rep.len ha36)) ?_
 refine Qu (Zf tz118 hS ?_)
 intro b38 w37 hb38 hS
 have zb38:rep M7 (Zr.zc GFrame) (Zr.zd:GFrame):=Zr.zr
 obtain ⟨d41,hd40,hz⟩:=Qb hz
 refine Qu (Q8 0 7 hS rfl zb38 rfl rfl ha36 rfl rfl (Lf (rr zb38) ha36) hd40 ?_)
 intro cs40 w39 hb40 ha40 hs40 hS
 refine Qf (Qa ?_)
 refine Qh <|Qi ?_
 have ha42:=(rr hb40)
 refine Qd (Zg K4 rfl (hS.bvB 0 rfl) (Rep.len ha42)) ?_
 obtain ⟨r45,hr44,hz⟩:=Qb hz
 refine Qu (Z4 (vs:=[.agg (sl cs40 (0) 7).toArray]) (v := .tuple #[.string r45.1,.int .i64 r45.2]) cb70 (Zu rfl) hS (encode_ok hS.agree ha42 hr44) ?_)
 intro w43 hS
 refine Qd (Qe (.tuple #[.string r45.1,.int .i64 r45.2]) rfl) <|Qd (Zc (v := .string r45.1) rfl rfl) <|Qd (Zc (v := .int .i64 r45.2) rfl rfl) <|Q2 2 rfl ?_
 refine Qf (Qa ?_)
 refine Qz (fun T' w' => ∃ M47 c49,Mm.ext w.heap.size (lentX [.box bx1 cx1 90,.stk ux1_6 9 1 xsx1_6]) M7 M47∧St w (lentX [.box bx1 cx1 90,.stk ux1_6 9 1 xsx1_6]) M47 [.box b38 cs40 118,.box bx1 cs9 90,.stk v11 9 1 xs12] w'∧T' 0 = .pointer (some ⟨bx1,0,none⟩)∧T' 6 = .string r45.1∧T' 8=vx4∧T' 9 = .int .i64 (x4.length:Int)∧T' 10 = .int .i64 y16∧T' 28 = .bool c49∧clSend_j2 d10 l13 y16 rec17 r45 c49=some r) ?_ ?_
 have hF62:=Qg w.heap.size (lentX [.box bx1 cx1 90,.stk ux1_6 9 1 xsx1_6]) M7
 refine Qi <|Qd (Qe (.int .i64 r45.2) rfl) <|Qd (Yc rfl rfl) <|Qd (Qe (.bool (r45.2==0)) rfl) ?_
 rcases ic hz with ⟨hc63,hz⟩ | ⟨hc63,hz⟩<;>rw [hc63]
 refine Qk rfl rfl (Qe (.pointer (some ⟨bx1,0,none⟩)) hT8_0) <|Qk rfl rfl (Q6 rfl) <|Qk rfl rfl (Qp Jo rfl) <|Qk rfl rfl (Ql v11 ts72 rfl (hS.bvB 1 rfl) hp15) ?_
 obtain ⟨a64,c64,hv64,_⟩:=Vj hk14
 refine Qk rfl rfl (Zk Vl (Vw hv64 rfl)) <|Qk rfl rfl (Zq rfl rfl) <|Qd (Zp (.bool (decide ((l13.length:Int)<60))) rfl rfl) ?_
 refine Qf (Qa ?_)
 exact ⟨M7,(decide ((l13.length:Int)<60)),hF62,hS,hT8_0,rfl,hT8_8,hT8_9,hT8_10,rfl,hz⟩
 refine Q2 7 rfl ?_
 refine Qf (Qa ?_)
 exact ⟨M7,false,hF62,hS,hT8_0,rfl,hT8_8,hT8_9,hT8_10,rfl,hz⟩
 rintro T48 w46 ⟨M47,c49,hx50,hS,hT48_0,hT48_6,hT48_8,hT48_9,hT48_10,hT48_28,hz⟩
 replace hb9:=Rep.mono hx50.1 hb9
 replace hk14:=Zm hx50.1 hk14
 replace hF33:=Qc hF33 hx50
 rw [clSend_j2] at hz
 refine Qr hT48_28 (fun hc51 => ?_) (fun hc51 => ?_)
 replace hz:=Qn hz hc51
 refine Qi <|Qd (Qe (.pointer (some ⟨bx1,0,none⟩)) hT48_0) <|Qd (Qe (.pointer (some ⟨bx1,0,none⟩)) hT48_0) <|Qd (Q6 rfl) <|Qd (Qp Jo rfl) <|Qd (Ql v11 ts72 rfl (hS.bvB 1 rfl) hp15) <|Qd (Qe (.string r45.1) hT48_6) ?_
 obtain ⟨_,hx53,hz⟩:=Qb hz
 have hx53:=Ke hx53
 refine Qu (Z0 (α := ByteArray) (l:=([r45.1]:List ByteArray)) [.string r45.1] tl72 (Ys rfl Vf) rfl rfl (by decide) (by decide) (by decide) hS (K5 (V0 hx53:rep M47 [Value.string r45.1] r45.1) Ji) ?_)
 intro v54 M54 w52 hx54 hv54 hS
 replace hb9:=Rep.mono hx54.1 hb9
 replace hk14:=Zm hx54.1 hk14
 replace hF33:=Qc hF33 hx54
 obtain ⟨l57,hr56,hz⟩:=Qb hz
 obtain ⟨hy56,hs56⟩:=Z1 hr56
 refine Qu (O_appS (α := ByteArray) (j:=2) tp72 hS rfl rfl rfl hk14 hv54 hy56 ?_)
 intro v56 xs56 w55 hk56 hS
 rw [← hs56] at hk56
 clear hr56 hs56
 refine Qd (Q6 rfl) <|Qd (Qp Jo rfl) ?_
 obtain ⟨d60,hd59,hz⟩:=Qb hz
 refine Qu (Q8 1 1 hS rfl hb9 rfl rfl (Ki hk56) (skr_cells hk56) rfl (GCluster.u6 (rr hb9) (Lf (GCluster.p6 (rr hb9)) (Ki hk56))) hd59 ?_)
 intro cs59 w58 hb59 ha59 hs59 hS
 have hp61:=hs59
 refine Qf (Q7 ?_)
 refine (Qa ?_)
 exact ⟨M54,cs59,d60,v56,xs56,l57,hF33,(Yk hS hb38),hb59,hk56,hp61,hT48_0,hT48_8,hT48_9,hT48_10,hz⟩
 replace hz:=Qo hz hc51
 refine Qv (Q7 ?_)
 refine (Qa ?_)
 exact ⟨M47,cs9,d10,v11,xs12,l13,hF33,(Yk hS hb38),hb9,hk14,hp15,hT48_0,hT48_8,hT48_9,hT48_10,hz⟩
 rintro T24 w22 ⟨M23,cs25,d26,v27,xs28,l29,hx32,hS,hb25,hk30,hp31,hT24_0,hT24_8,hT24_9,hT24_10,hz⟩
 replace hF19:=Qc hF19 hx32
 rw [clSend_j1] at hz
 refine Qi <|Qd (Zz hT24_10 rfl) <|Qd (Qe (.int .i64 (IntKind.wrap .i64 (y16+1))) rfl) ?_
 refine Qf (Qa ?_)
 exact ⟨M23,cs25,d26,v27,xs28,l29,(IntKind.wrap .i64 (y16+1)),hF19,hS,hb25,hk30,hp31,hT24_0,hT24_8,hT24_9,rfl,(by rw [← hrec17];exact hz)⟩
 replace hz:=Qo hz hc21
 refine Zs <|Q0 <|Q0 <|Zt ?_
 cases hz
 exact (RetQ_ret (R_t0 rfl  ⟨_,M7,_,rfl,hE,(hS.sel (H':=[.box bx1 cs9 90,.stk v11 9 1 xs12]) [0,1] (by decide) rfl),cs9,v11,xs12,rfl,rfl,hb9,hk14,hp15⟩))
def clBeginD (fu:Nat) (x1:GCluster) (l3:List ByteArray) (x4:List GOp):Option (GReply × GCluster × (List ByteArray)) :=
 (bif decide (x1.begun≥32) then
 (some ({ code:=5,n:=Zr.zd,values:=Zr.zd }:GReply)).bind fun d9 =>
 (some d9).bind fun d12 =>
 some (d12,x1,l3)
 else
 (some ({ id:=x1.begun,ops:=x4 }:GTxn)).bind fun d14 =>
 (postBeginD fu d14).bind fun r17 =>
 (some r17.1).bind fun d22 =>
 (bif r17.2.2 != 0 then
 (some ({ code:=r17.2.2,n:=Zr.zd,values:=Zr.zd }:GReply)).bind fun d25 =>
 (some d25).bind fun d28 =>
 some (d28,x1,l3)
 else
 (inR x1.begun 32).bind fun _ =>
 (idxV x1.cases x1.begun).bind fun x37 =>
 (setV x1.cases x1.begun d22).bind fun a39 =>
 (some ({ x1 with cases:=a39 }:GCluster)).bind fun d41 =>
 (some ({ d41 with begun:=IntKind.wrap .i64 (d41.begun+1) }:GCluster)).bind fun d46 =>
 (clSendD fu d46 l3 r17.2.1).bind fun r50 =>
 (some ({ code:=Zr.zd,n:=IntKind.wrap .i64 (r50.1.begun-1),values:=Zr.zd }:GReply)).bind fun d52 =>
 (some d52).bind fun d55 =>
 some (d55,r50.1,r50.2)))
set_option maxRecDepth 100000 in
set_option maxHeartbeats 4000000 in
theorem clBegin_ok {M:Mm} {w:World} {bx1:Nat} {cx1:List Value} {ux1_6:Value} {xsx1_6:List Value} {vx4:Value} {x1:GCluster} {l3:List ByteArray} {x4:List GOp} {fu:Nat} {r:GReply × GCluster × (List ByteArray)} (hS:St w (lentX [.box bx1 cx1 90,.stk ux1_6 9 1 xsx1_6]) M [.box bx1 cx1 90,.stk ux1_6 9 1 xsx1_6] w) (hcx1:rep M cx1 x1) (hkx1_6:skr M ux1_6 xsx1_6 l3) (hpx1_6:sl cx1 1993 1=[ux1_6]) (hvx4:repL M vx4 x4) (hz:clBeginD fu x1 l3 x4=some r) :
    Calls Try.prog 47 #[.pointer (some ⟨bx1,0,none⟩),vx4] w (GivesL M w [.box bx1 cx1 90,.stk ux1_6 9 1 xsx1_6] (fun M' u L' => ∃ c0 k0 u1 x1,u = .agg c0.toArray∧L'=[.box bx1 k0 90,.stk u1 9 1 x1]∧rep M' c0 r.1∧rep M' k0 r.2.1∧skr M' u1 x1 r.2.2∧sl k0 1993 1=[u1])):=by
 refine Zh Try.func47 rfl 54 rfl rfl (by kernel_rfl) fun T hT => ?_
 have hT_0:T 0 = .pointer (some ⟨bx1,0,none⟩):=hT 0
 have hT_1:T 1=vx4:=hT 1
 clear hT
 have hE:=Qg w.heap.size (lentX [.box bx1 cx1 90,.stk ux1_6 9 1 xsx1_6]) M
 rw [clBeginD] at hz
 refine Qh <|Qi ?_
 refine Qu (Zf tz40 hS ?_)
 intro b6 w5 hb6 hS
 have zb6:rep M (Zr.zc GReply) (Zr.zd:GReply):=Zr.zr
 refine Qf (Qa ?_)
 refine Qh <|Qh <|Qi <|Qd (Qe (.pointer (some ⟨bx1,0,none⟩)) hT_0) <|Qd (Q6 rfl) <|Qd (Qp fa90_5 rfl) <|Qd (Ql (.int .i64 x1.begun) Z5 rfl (hS.bvB 1 rfl) (Vv (rr hcx1))) <|Qd (Va rfl rfl) ?_
 refine Qf (Qa ?_)
 refine Qr rfl (fun hc7 => ?_) (fun hc7 => ?_)
 replace hz:=Qn hz hc7
 refine Qh <|Qi ?_
 have k8_0:=V3 (Zr.zr:rep M (Zr.zc GReply) (Zr.zd:GReply)) (ri 5:rep M _ _)
 obtain ⟨d9,hd8,hz⟩:=Qb hz
 obtain ⟨cs8,hf8,ha8⟩ : ∃ cs,fillZ (([(0,1),(1,1),(2,1)]:List (Nat × Nat))[·]?) (Zr.zc GReply) [(0,.int .i64 5)]=some cs∧rep M cs d9:=⟨_,(Zb (Zr.zr:rep M (Zr.zc GReply) (Zr.zd:GReply)) rfl rfl (Rep.len (ri 5:rep M _ _)) (by decide) Z8),Z9 (x:=({ code:=5,n:=Zr.zd,values:=Zr.zd }:GReply)) k8_0 hd8⟩
 refine Qd (Zx [(0,.int .i64 5)] tb40 (Ys rfl Vf) hf8) ?_
 obtain ⟨d12,hd11,hz⟩:=Qb hz
 refine Qu (Q8 0 3 hS rfl zb6 rfl rfl ha8 rfl rfl (Lf (rr zb6) ha8) hd11 ?_)
 intro cs11 w10 hb11 ha11 hs11 hS
 refine Qf (Qa ?_)
 cases hz
 exact Q4 (Qs (Jp (j:=0) rfl rfl (by rw [Rep.len hb11];exact Kr) hS rfl ⟨_,M,_,rfl,hE,(hS.sel (H':=[.box bx1 cx1 90,.stk ux1_6 9 1 xsx1_6]) [1,2] (by decide) rfl),cs11,cx1,ux1_6,xsx1_6,rfl,rfl,hb11,hcx1,hkx1_6,hpx1_6⟩))
 replace hz:=Qo hz hc7
 refine Qv (Qa ?_)
 refine Qh <|Qi <|Qd (Qe (.pointer (some ⟨bx1,0,none⟩)) hT_0) <|Qd (Q6 rfl) <|Qd (Qp fa90_5 rfl) <|Qd (Ql (.int .i64 x1.begun) Z5 rfl (hS.bvB 1 rfl) (Vv (rr hcx1))) <|Qd (Qe (vx4) hT_1) ?_
 have k13_0:=GTxn.w0 (Zr.zr:rep M (Zr.zc GTxn) (Zr.zd:GTxn)) (ri x1.begun:rep M _ _)
 have k13_1:=GTxn.w1 k13_0 (Q1 hvx4)
 obtain ⟨d14,hd13,hz⟩:=Qb hz
 obtain ⟨cs13,hf13,ha13⟩ : ∃ cs,fillZ (([(0,1),(1,1)]:List (Nat × Nat))[·]?) (Zr.zc GTxn) [(0,.int .i64 x1.begun),(1,vx4)]=some cs∧rep M cs d14:=⟨_,(Zb (Zr.zr:rep M (Zr.zc GTxn) (Zr.zd:GTxn)) rfl rfl (Rep.len (ri x1.begun:rep M _ _)) (by decide) (Zb k13_0 rfl (Q9 hvx4) (Rep.len (Q1 hvx4)) (by decide) Z8)),Z9 (x:=({ id:=x1.begun,ops:=x4 }:GTxn)) k13_1 hd13⟩
 refine Qd (Zx [(0,.int .i64 x1.begun),(1,vx4)] tb115 (Ys rfl (Ys rfl Vf)) hf13) ?_
 obtain ⟨r17,hr16,hz⟩:=Qb hz
 refine Qu (Y1 (vs:=[.agg cs13.toArray]) (rv:=(fun M' u => ∃ c0 v1,u = .tuple #[.agg c0.toArray,v1,.int .i64 r17.2.2]∧rep M' c0 r17.1∧repL M' v1 r17.2.1)) cb65 (Zu rfl) hS (postBegin_ok hS.agree ha13 hr16) ?_)
 intro u16 M16 w15 hx16 hu16 hS
 obtain ⟨c16_0,v16_1,hq16,f16_0,f16_1⟩:=hu16
 subst hq16
 replace hcx1:=Rep.mono hx16.1 hcx1
 replace hkx1_6:=Zm hx16.1 hkx1_6
 replace zb6:=Rep.mono hx16.1 zb6
 replace hE:=Qc hE hx16
 refine Qd (Qe (.tuple #[.agg c16_0.toArray,v16_1,.int .i64 r17.2.2]) rfl) <|Qd (Zc (v := .agg c16_0.toArray) rfl rfl) <|Qd (Zc (v:=v16_1) rfl rfl) <|Qd (Zc (v := .int .i64 r17.2.2) rfl rfl) ?_
 refine Qu (Zf tz49 hS ?_)
 intro b19 w18 hb19 hS
 have zb19:rep M16 (Zr.zc GCase) (Zr.zd:GCase):=Zr.zr
 obtain ⟨d22,hd21,hz⟩:=Qb hz
 refine Qu (Q8 0 24 hS rfl zb19 rfl rfl f16_0 rfl rfl (Lf (rr zb19) f16_0) hd21 ?_)
 intro cs21 w20 hb21 ha21 hs21 hS
 refine Q2 2 rfl ?_
 refine Qf (Qa ?_)
 refine Qh <|Qh <|Qi <|Qd (Qe (.int .i64 r17.2.2) rfl) <|Qd (Yp rfl rfl) ?_
 refine Qf (Qa ?_)
 refine Qr rfl (fun hc23 => ?_) (fun hc23 => ?_)
 replace hz:=Qn hz hc23
 refine Qh <|Qi <|Qd (Qe (.int .i64 r17.2.2) rfl) ?_
 have k24_0:=V3 (Zr.zr:rep M16 (Zr.zc GReply) (Zr.zd:GReply)) (ri r17.2.2:rep M16 _ _)
 obtain ⟨d25,hd24,hz⟩:=Qb hz
 obtain ⟨cs24,hf24,ha24⟩ : ∃ cs,fillZ (([(0,1),(1,1),(2,1)]:List (Nat × Nat))[·]?) (Zr.zc GReply) [(0,.int .i64 r17.2.2)]=some cs∧rep M16 cs d25:=⟨_,(Zb (Zr.zr:rep M16 (Zr.zc GReply) (Zr.zd:GReply)) rfl rfl (Rep.len (ri r17.2.2:rep M16 _ _)) (by decide) Z8),Z9 (x:=({ code:=r17.2.2,n:=Zr.zd,values:=Zr.zd }:GReply)) k24_0 hd24⟩
 refine Qd (Zx [(0,.int .i64 r17.2.2)] tb40 (Ys rfl Vf) hf24) ?_
 obtain ⟨d28,hd27,hz⟩:=Qb hz
 refine Qu (Q8 1 3 hS rfl zb6 rfl rfl ha24 rfl rfl (Lf (rr zb6) ha24) hd27 ?_)
 intro cs27 w26 hb27 ha27 hs27 hS
 refine Qf (Qa ?_)
 cases hz
 exact Q4 (Qs (Jp (j:=1) rfl rfl (by rw [Rep.len hb27];exact Kr) hS rfl ⟨_,M16,_,rfl,hE,(hS.sel (H':=[.box bx1 cx1 90,.stk ux1_6 9 1 xsx1_6]) [2,3] (by decide) rfl),cs27,cx1,ux1_6,xsx1_6,rfl,rfl,hb27,hcx1,hkx1_6,hpx1_6⟩))
 replace hz:=Qo hz hc23
 refine Qv (Qa ?_)
 refine Qh <|Yt [.box b19 cs21 49,.box bx1 cx1 90] [9] Z6 hS fun w29 hS hG30 hR31=>wy 0 rfl (Qe (.pointer (some ⟨bx1,0,none⟩)) hT_0) (fun _=>hR31) <|wy 1 rfl (Qe (.pointer (some ⟨bx1,0,none⟩)) hT_0) (fun _=>hR31) <|wy 2 rfl (Q6 rfl) (fun _=>hR31) <|wy 3 rfl (Qp fa90_5 rfl) (fun _=>hR31) <|Y6 4 rfl (Ql (.int .i64 x1.begun) Z5 rfl (Ym 1 rfl) (Vv (rr hcx1))) hR31 ?_
 have ha32:=(rr hb21)
 refine Y6 5 rfl (Zg Vb rfl (Ym 0 rfl) (Rep.len ha32)) hR31 <|wy 6 rfl (Q6 rfl) (fun _=>hR31) <|wy 7 rfl (Qp fa90_4 rfl) (fun _=>hR31) ?_
 obtain ⟨u33,hx34,hz⟩:=Qb hz
 obtain ⟨hx34a,hx34b⟩:=Qt hx34
 refine wy 8 rfl (Za ia88 rfl rfl hx34a hx34b) (fun _=>hR31) ?_
 obtain ⟨x37,hx38,hz⟩:=Qb hz
 obtain ⟨a39,hx40,hz⟩:=Qb hz
 obtain ⟨d41,hd36,hz⟩:=Qb hz
 have hq43:=(Zn hx38)
 refine w1 9 rfl (Q8 2 24 hS rfl hcx1 rfl rfl ha32 rfl rfl (GCluster.u4 (rr hcx1) (vu (k:=24) rfl rfl (Vd (rr hcx1)) (Lf (vp (k:=24) rfl rfl (Vd (rr hcx1)) hx38) ha32) hx40)) hd36 ?_)
 intro cs36 w35 hb36 ha36 hs36 hS
 have hp42:=(ha36 (by omega)).trans hpx1_6
 refine ⟨nB,?_⟩
 refine wd (Qa ?_)
 refine Qh <|Qi <|Qd (Qe (.pointer (some ⟨bx1,0,none⟩)) hT_0) <|Qd (Q6 rfl) <|Qd (Qp fa90_5 rfl) <|Qd (Ql (.int .i64 d41.begun) Z5 rfl (hS.bvB 2 rfl) (Vv (rr hb36))) <|Qd (Zz rfl rfl) <|Qd (Q6 rfl) <|Qd (Qp fa90_5 rfl) ?_
 obtain ⟨d46,hd45,hz⟩:=Qb hz
 refine Qu (Q8 2 1 hS rfl hb36 rfl rfl (ri (IntKind.wrap .i64 (d41.begun+1)):rep M16 _ _) rfl rfl (GCluster.u5 (rr hb36) (Lf (Vv (rr hb36)) (ri (IntKind.wrap .i64 (d41.begun+1)):rep M16 _ _))) hd45 ?_)
 intro cs45 w44 hb45 ha45 hs45 hS
 have hp47:=(ha45 (by omega)).trans hp42
 refine Qf (Qa ?_)
 refine Qh <|Qi <|Qd (Qe (.pointer (some ⟨bx1,0,none⟩)) hT_0) <|Qd (Qe (v16_1) rfl) ?_
 obtain ⟨r50,hr49,hz⟩:=Qb hz
 refine Qu (Zw (vs:=[.pointer (some ⟨bx1,0,none⟩),v16_1]) (L:=[.box bx1 cs45 90,.stk ux1_6 9 1 xsx1_6]) (R:=[.box b19 cs21 49,.box b6 (Zr.zc GReply) 40]) (rv:=(fun M' u L' => ∃ k0 u1 x1,u = .tuple #[]∧L'=[.box bx1 k0 90,.stk u1 9 1 x1]∧rep M' k0 r50.1∧skr M' u1 x1 r50.2∧sl k0 1993 1=[u1])) cb49 (Ya rfl rfl) hS (hS.sel [2,3,0,1] (by decide) rfl) (fun hS=>clSend_ok hS hb45 hkx1_6 hp47 f16_1 hr49) ?_)
 rintro u49 M49 w48 L49 hx49 ⟨k0_49,u1_49,x1_49,rfl,hL49,f49_0,f49_1,f49_2⟩ hS
 replace hS:=hS _ hL49
 replace zb6:=Rep.mono hx49.1 zb6
 replace hE:=Qc hE hx49
 refine Qf (Qa ?_)
 refine Qh <|Qi <|Qd (Qe (.pointer (some ⟨bx1,0,none⟩)) hT_0) <|Qd (Q6 rfl) <|Qd (Qp fa90_5 rfl) <|Qd (Ql (.int .i64 r50.1.begun) Z5 rfl (hS.bvB 0 rfl) (Vv (rr f49_0))) <|Qd (Kf rfl rfl) ?_
 have k51_0:=GReply.w1 (Zr.zr:rep M49 (Zr.zc GReply) (Zr.zd:GReply)) (ri (IntKind.wrap .i64 (r50.1.begun-1)):rep M49 _ _)
 obtain ⟨d52,hd51,hz⟩:=Qb hz
 obtain ⟨cs51,hf51,ha51⟩ : ∃ cs,fillZ (([(0,1),(1,1),(2,1)]:List (Nat × Nat))[·]?) (Zr.zc GReply) [(1,.int .i64 (IntKind.wrap .i64 (r50.1.begun-1)))]=some cs∧rep M49 cs d52:=⟨_,(Zb (Zr.zr:rep M49 (Zr.zc GReply) (Zr.zd:GReply)) rfl rfl (Rep.len (ri (IntKind.wrap .i64 (r50.1.begun-1)):rep M49 _ _)) (by decide) Z8),Z9 (x:=({ code:=Zr.zd,n:=IntKind.wrap .i64 (r50.1.begun-1),values:=Zr.zd }:GReply)) k51_0 hd51⟩
 refine Qd (Zx [(1,.int .i64 (IntKind.wrap .i64 (r50.1.begun-1)))] tb40 (Ys rfl Vf) hf51) ?_
 obtain ⟨d55,hd54,hz⟩:=Qb hz
 refine Qu (Q8 3 3 hS rfl zb6 rfl rfl ha51 rfl rfl (Lf (rr zb6) ha51) hd54 ?_)
 intro cs54 w53 hb54 ha54 hs54 hS
 refine Qf (Qa ?_)
 cases hz
 exact Q4 (Jp (j:=3) rfl rfl (by rw [Rep.len hb54];exact Kr) hS rfl ⟨_,M49,_,rfl,hE,(hS.sel (H':=[.box bx1 k0_49 90,.stk u1_49 9 1 x1_49]) [0,1] (by decide) rfl),cs54,k0_49,u1_49,x1_49,rfl,rfl,hb54,f49_0,f49_1,f49_2⟩)
def clToldD (fu:Nat) (x1:GCluster) (x2:Int):Option GReply :=
 (inR x2 32).bind fun _ =>
 (idxV x1.cases x2).bind fun x7 =>
 (postResultD fu x7).bind fun r12 =>
 (some ({ code:=Zr.zd,n:=x2,values:=r12.1 }:GReply)).bind fun d14 =>
 (some d14).bind fun d17 =>
 some d17
set_option maxRecDepth 100000 in
set_option maxHeartbeats 4000000 in
theorem clTold_ok {M:Mm} {w:World} {bx1:Nat} {cx1:List Value} {x1:GCluster} {x2:Int} {fu:Nat} {r:GReply} (hS:St w (lentX [.box bx1 cx1 90]) M [.box bx1 cx1 90] w) (hcx1:rep M cx1 x1) (hz:clToldD fu x1 x2=some r) :
    Calls Try.prog 51 #[.pointer (some ⟨bx1,0,none⟩),.int .i64 x2] w (GivesL M w [.box bx1 cx1 90] (fun M' u L' => ∃ c0,u = .agg c0.toArray∧L'=[.box bx1 cx1 90]∧rep M' c0 r)):=by
 refine Zh Try.func51 rfl 20 rfl rfl (by kernel_rfl) fun T hT => ?_
 have hT_0:T 0 = .pointer (some ⟨bx1,0,none⟩):=hT 0
 have hT_1:T 1 = .int .i64 x2:=hT 1
 clear hT
 have hE:=Qg w.heap.size (lentX [.box bx1 cx1 90]) M
 rw [clToldD] at hz
 refine Qh <|Qi ?_
 refine Qu (Zf tz40 hS ?_)
 intro b4 w3 hb4 hS
 have zb4:rep M (Zr.zc GReply) (Zr.zd:GReply):=Zr.zr
 refine Qf (Qa ?_)
 refine Qh <|Qi <|Qd (Qe (.pointer (some ⟨bx1,0,none⟩)) hT_0) <|Qd (Qe (.int .i64 x2) hT_1) <|Qd (Q6 rfl) <|Qd (Qp fa90_4 rfl) ?_
 obtain ⟨u5,hx6,hz⟩:=Qb hz
 obtain ⟨hx6a,hx6b⟩:=Qt hx6
 refine Qd (Za ia88 rfl rfl hx6a hx6b) ?_
 obtain ⟨x7,hx8,hz⟩:=Qb hz
 have ha9:=(vp (k:=24) rfl rfl (Vd (rr hcx1)) hx8)
 refine Qd (Zg Vb rfl (hS.bvB 1 rfl) (Rep.len ha9)) ?_
 obtain ⟨r12,hr11,hz⟩:=Qb hz
 refine Qu (Y1 (vs:=[.agg (sl cx1 (0+1224+Int.toNat x2*24) 24).toArray]) (rv:=(fun M' u => ∃ v0,u = .tuple #[v0,.bool r12.2]∧repL M' v0 r12.1)) cb28 (Zu rfl) hS (postResult_ok hS.agree ha9 hr11) ?_)
 intro u11 M11 w10 hx11 hu11 hS
 obtain ⟨v11_0,hq11,f11_0⟩:=hu11
 subst hq11
 replace zb4:=Rep.mono hx11.1 zb4
 replace hE:=Qc hE hx11
 refine Qd (Qe (.tuple #[v11_0,.bool r12.2]) rfl) <|Qd (Zc (v:=v11_0) rfl rfl) <|Qd (Zc (v := .bool r12.2) rfl rfl) <|Q2 2 rfl ?_
 refine Qf (Qa ?_)
 refine Qh <|Qi <|Qd (Qe (.int .i64 x2) hT_1) <|Qd (Qe (v11_0) rfl) ?_
 have k13_0:=GReply.w1 (Zr.zr:rep M11 (Zr.zc GReply) (Zr.zd:GReply)) (ri x2:rep M11 _ _)
 have k13_1:=GReply.w2 k13_0 (Q1 f11_0)
 obtain ⟨d14,hd13,hz⟩:=Qb hz
 obtain ⟨cs13,hf13,ha13⟩ : ∃ cs,fillZ (([(0,1),(1,1),(2,1)]:List (Nat × Nat))[·]?) (Zr.zc GReply) [(1,.int .i64 x2),(2,v11_0)]=some cs∧rep M11 cs d14:=⟨_,(Zb (Zr.zr:rep M11 (Zr.zc GReply) (Zr.zd:GReply)) rfl rfl (Rep.len (ri x2:rep M11 _ _)) (by decide) (Zb k13_0 rfl (Q9 f11_0) (Rep.len (Q1 f11_0)) (by decide) Z8)),Z9 (x:=({ code:=Zr.zd,n:=x2,values:=r12.1 }:GReply)) k13_1 hd13⟩
 refine Qd (Zx [(1,.int .i64 x2),(2,v11_0)] tb40 (Ys rfl (Ys rfl Vf)) hf13) ?_
 obtain ⟨d17,hd16,hz⟩:=Qb hz
 refine Qu (Q8 0 3 hS rfl zb4 rfl rfl ha13 rfl rfl (Lf (rr zb4) ha13) hd16 ?_)
 intro cs16 w15 hb16 ha16 hs16 hS
 refine Qf (Qa ?_)
 cases hz
 exact Q4 (Jp (j:=0) rfl rfl (by rw [Rep.len hb16];exact Kr) hS rfl ⟨_,M11,_,rfl,hE,(hS.sel (H':=[.box bx1 cx1 90]) [1] (by decide) rfl),cs16,rfl,rfl,hb16⟩)
def clCome_j1 (fu:Nat) (x1:GCluster) (l3:List ByteArray) (x4:Int) (x6:ByteArray) (d18:GNode) (l19:List GFrame) (y21:Int):Option (Int × GCluster × (List ByteArray)) :=
 (bif y21 != 0 then
 some (y21,x1,l3)
 else
 (inR x4 6).bind fun _ =>
 (idxV x1.tear x4).bind fun x26 =>
 (bif decide (x26>0) then
 (inR x4 6).bind fun _ =>
 (idxV x1.logs x4).bind fun x34 =>
 (inR x4 6).bind fun _ =>
 (idxV x1.tear x4).bind fun x38 =>
 (bkTearD fu x34 x6 (IntKind.wrap .i64 (x38-1))).bind fun r42 =>
 (inR x4 6).bind fun _ =>
 (chkS r42).bind fun _ =>
 (idxV x1.logs x4).bind fun x49 =>
 (setV x1.logs x4 r42).bind fun a51 =>
 (some ({ x1 with logs:=a51 }:GCluster)).bind fun d53 =>
 (some ({ entries:=Zr.zd,order:=Zr.zd,values:=Zr.zd }:GNode)).bind fun d60 =>
 (inR x4 6).bind fun _ =>
 (idxV d53.nodes x4).bind fun x65 =>
 (setV d53.nodes x4 d60).bind fun a67 =>
 (some ({ d53 with nodes:=a67 }:GCluster)).bind fun d69 =>
 (inR x4 6).bind fun _ =>
 (idxV d69.down x4).bind fun x77 =>
 (setV d69.down x4 true).bind fun a79 =>
 (some ({ d69 with down:=a79 }:GCluster)).bind fun d81 =>
 (inR x4 6).bind fun _ =>
 (idxV d81.tear x4).bind fun x89 =>
 (setV d81.tear x4 0).bind fun a91 =>
 (some ({ d81 with tear:=a91 }:GCluster)).bind fun d93 =>
 some (6,d93,l3)
 else
 (inR x4 6).bind fun _ =>
 (idxV x1.logs x4).bind fun x102 =>
 (bkWriteD fu x102 x6).bind fun r106 =>
 (inR x4 6).bind fun _ =>
 (chkS r106.1).bind fun _ =>
 (idxV x1.logs x4).bind fun x113 =>
 (setV x1.logs x4 r106.1).bind fun a115 =>
 (some ({ x1 with logs:=a115 }:GCluster)).bind fun d117 =>
 (bif r106.2 != 0 then
 some (r106.2,d117,l3)
 else
 (inR x4 6).bind fun _ =>
 (idxV d117.nodes x4).bind fun x129 =>
 (setV d117.nodes x4 d18).bind fun a131 =>
 (some ({ d117 with nodes:=a131 }:GCluster)).bind fun d133 =>
 (clSendD fu d133 l3 l19).bind fun r139 =>
 some (0,r139.1,r139.2))))
def clComeD (fu:Nat) (x1:GCluster) (l3:List ByteArray) (x4:Int) (x5:GFrame) (x6:ByteArray):Option (Int × GCluster × (List ByteArray)) :=
 (inR x4 6).bind fun _ =>
 (idxV x1.down x4).bind fun x11 =>
 (bif x11 then
 some (6,x1,l3)
 else
 (inR x4 6).bind fun _ =>
 (idxV x1.nodes x4).bind fun x146 =>
 (nodeTakeD fu x146 x4 x5).bind fun r152 =>
 (some r152.1).bind fun d157 =>
 clCome_j1 fu x1 l3 x4 x6 d157 r152.2.1 r152.2.2)
set_option maxRecDepth 100000 in
set_option maxHeartbeats 4000000 in
theorem clCome_ok {M:Mm} {w:World} {bx1:Nat} {cx1:List Value} {ux1_6:Value} {xsx1_6:List Value} {cx5:List Value} {x1:GCluster} {l3:List ByteArray} {x4:Int} {x5:GFrame} {x6:ByteArray} {fu:Nat} {r:Int × GCluster × (List ByteArray)} (hS:St w (lentX [.box bx1 cx1 90,.stk ux1_6 9 1 xsx1_6]) M [.box bx1 cx1 90,.stk ux1_6 9 1 xsx1_6] w) (hcx1:rep M cx1 x1) (hkx1_6:skr M ux1_6 xsx1_6 l3) (hpx1_6:sl cx1 1993 1=[ux1_6]) (hcx5:rep M cx5 x5) (hz:clComeD fu x1 l3 x4 x5 x6=some r) :
    Calls Try.prog 68 #[.pointer (some ⟨bx1,0,none⟩),.int .i64 x4,.agg cx5.toArray,.string x6] w (GivesL M w [.box bx1 cx1 90,.stk ux1_6 9 1 xsx1_6] (fun M' u L' => ∃ k0 u1 x1,u = .int .i64 r.1∧L'=[.box bx1 k0 90,.stk u1 9 1 x1]∧rep M' k0 r.2.1∧skr M' u1 x1 r.2.2∧sl k0 1993 1=[u1])):=by
 refine Zh Try.func68 rfl 105 rfl rfl (by kernel_rfl) fun T hT => ?_
 have hT_0:T 0 = .pointer (some ⟨bx1,0,none⟩):=hT 0
 have hT_1:T 1 = .int .i64 x4:=hT 1
 have hT_2:T 2 = .agg cx5.toArray:=hT 2
 have hT_3:T 3 = .string x6:=hT 3
 clear hT
 have hE:=Qg w.heap.size (lentX [.box bx1 cx1 90,.stk ux1_6 9 1 xsx1_6]) M
 rw [clComeD] at hz
 refine Qh <|Qi ?_
 refine Qu (Yo (v := .agg cx5.toArray) (cs:=cx5) hT_2 rfl hS ?_)
 intro b8 w7 hb8 hS
 refine Qd (Qj (.int .i64 0) rfl) ?_
 refine Qf (Qa ?_)
 refine Qh <|Qh <|Qi <|Qd (Qe (.pointer (some ⟨bx1,0,none⟩)) hT_0) <|Qd (Qe (.int .i64 x4) hT_1) <|Qd (Q6 rfl) <|Qd (Qp fa90_2 rfl) ?_
 obtain ⟨u9,hx10,hz⟩:=Qb hz
 obtain ⟨hx10a,hx10b⟩:=Qt hx10
 refine Qd (Za Jq rfl rfl hx10a hx10b) ?_
 obtain ⟨x11,hx12,hz⟩:=Qb hz
 refine Qd (Ql (.bool x11) Jk rfl (hS.bvB 1 rfl) (vp (k:=1) rfl rfl (Y4 (rr hcx1)) hx12)) ?_
 refine Qf (Qa ?_)
 refine Qr rfl (fun hc13 => ?_) (fun hc13 => ?_)
 replace hz:=Qn hz hc13
 refine Qh <|Qi <|Qd (Qj (.int .i64 6) rfl) ?_
 refine Qf (Qa ?_)
 cases hz
 exact Q4 (Qs (Yj rfl rfl ⟨_,M,_,rfl,hE,(hS.sel (H':=[.box bx1 cx1 90,.stk ux1_6 9 1 xsx1_6]) [1,2] (by decide) rfl),cx1,ux1_6,xsx1_6,rfl,rfl,hcx1,hkx1_6,hpx1_6⟩))
 replace hz:=Qo hz hc13
 refine Qv (Qa ?_)
 refine Qz (fun T' w' => ∃ M15 b17 cs17 d18 v20 l19 y21,Mm.ext w.heap.size (lentX [.box bx1 cx1 90,.stk ux1_6 9 1 xsx1_6]) M M15∧St w (lentX [.box bx1 cx1 90,.stk ux1_6 9 1 xsx1_6]) M15 [.box b17 cs17 34,.box b8 cx5 118,.box bx1 cx1 90,.stk ux1_6 9 1 xsx1_6] w'∧rep M15 cs17 d18∧w.heap.size≤b17∧repL M15 v20 l19∧T' 9 = .pointer (some ⟨b17,0,none⟩)∧T' 0 = .pointer (some ⟨bx1,0,none⟩)∧T' 1 = .int .i64 x4∧T' 3 = .string x6∧T' 10=v20∧T' 11 = .int .i64 y21∧clCome_j1 fu x1 l3 x4 x6 d18 l19 y21=some r) ?_ ?_
 have hF140:=Qg w.heap.size (lentX [.box bx1 cx1 90,.stk ux1_6 9 1 xsx1_6]) M
 refine Yt [.box b8 cx5 118,.box bx1 cx1 90] [] Z6 hS fun w141 hS hG142 hR143=>wy 0 rfl (Qe (.pointer (some ⟨bx1,0,none⟩)) hT_0) (fun _=>hR143) <|wy 1 rfl (Qe (.int .i64 x4) hT_1) (fun _=>hR143) <|wy 2 rfl (Q6 rfl) (fun _=>hR143) <|wy 3 rfl (Qp fa90_0 rfl) (fun _=>hR143) ?_
 obtain ⟨u144,hx145,hz⟩:=Qb hz
 obtain ⟨hx145a,hx145b⟩:=Qt hx145
 refine wy 4 rfl (Za ia86 rfl rfl hx145a hx145b) (fun _=>hR143) ?_
 obtain ⟨x146,hx147,hz⟩:=Qb hz
 have ha148:=(vp (k:=201) rfl rfl (Yz (rr hcx1)) hx147)
 refine Y6 5 rfl (Zg Vc rfl (Ym 1 rfl) (Rep.len ha148)) hR143 <|wy 6 rfl (Qe (.int .i64 x4) hT_1) (fun _=>hR143) ?_
 have ha149:=(rr hcx5)
 refine Y6 7 rfl (Zg K4 rfl (Ym 0 rfl) (Rep.len ha149)) hR143 ?_
 obtain ⟨r152,hr151,hz⟩:=Qb hz
 obtain ⟨d157,hd156,hz⟩:=Qb hz
 refine WB_two (i:=8) (j:=13) (by kernel_rfl) rfl rfl (Y1 (vs:=[.agg (sl cx1 (0+0+Int.toNat x4*201) 201).toArray,.int .i64 x4,.agg (sl cx5 (0) 7).toArray]) (rv:=(fun M' u => ∃ c0 v1,u = .tuple #[.agg c0.toArray,v1,.int .i64 r152.2.2]∧rep M' c0 r152.1∧repL M' v1 r152.2.1)) cb81 (Jj rfl rfl rfl) hS (nodeTake_ok hS.agree ha148 ha149 hr151) ?_) (Zf tz34 hS ?_)
 intro u151 M151 w150 hx151 hu151 hS
 obtain ⟨c151_0,v151_1,hq151,f151_0,f151_1⟩:=hu151
 subst hq151
 replace hF140:=Qc hF140 hx151
 replace hG142:=Qc hG142 hx151
 refine Yr hS hG142 fun hR158=>wy 9 rfl (Qe (.tuple #[.agg c151_0.toArray,v151_1,.int .i64 r152.2.2]) rfl) (fun _=>hR158) <|wy 10 rfl (Zc (v := .agg c151_0.toArray) rfl rfl) (fun _=>hR158) <|wy 11 rfl (Zc (v:=v151_1) rfl rfl) (fun _=>hR158) <|wy 12 rfl (Zc (v := .int .i64 r152.2.2) rfl rfl) (fun _=>hR158) ?_
 refine w1 13 rfl (Zf tz34 hS ?_)
 intro b154 w153 hb154 hS
 have zb154:rep M151 (Zr.zc GNode) (Zr.zd:GNode):=Zr.zr
 refine Yr hS hG142 fun hR159 => ?_
 refine w1 14 rfl (Q8 0 201 hS rfl zb154 rfl rfl f151_0 rfl rfl (Lf (rr zb154) f151_0) hd156 ?_)
 intro cs156 w155 hb156 ha156 hs156 hS
 refine Yr hS hG142 fun hR160=>wy 15 rfl (Qj (v151_1) rfl) (fun _=>hR160) <|wy 16 rfl (Qj (.int .i64 r152.2.2) rfl) (fun _=>hR160) ?_
 refine wd (Qa ?_)
 exact ⟨M151,b154,cs156,d157,v151_1,r152.2.1,r152.2.2,hF140,hS,hb156,hb154,f151_1,rfl,hT_0,hT_1,hT_3,rfl,rfl,hz⟩
 intro b154 w153 hb154 hS
 have zb154:rep M (Zr.zc GNode) (Zr.zd:GNode):=Zr.zr
 refine Yr hS hG142 fun hR161 => ?_
 refine w1 8 rfl (Y1 (vs:=[.agg (sl cx1 (0+0+Int.toNat x4*201) 201).toArray,.int .i64 x4,.agg (sl cx5 (0) 7).toArray]) (rv:=(fun M' u => ∃ c0 v1,u = .tuple #[.agg c0.toArray,v1,.int .i64 r152.2.2]∧rep M' c0 r152.1∧repL M' v1 r152.2.1)) cb81 (Jj rfl rfl rfl) hS (nodeTake_ok hS.agree ha148 ha149 hr151) ?_)
 intro u151 M151 w150 hx151 hu151 hS
 obtain ⟨c151_0,v151_1,hq151,f151_0,f151_1⟩:=hu151
 subst hq151
 replace zb154:=Rep.mono hx151.1 zb154
 replace hF140:=Qc hF140 hx151
 replace hG142:=Qc hG142 hx151
 refine Yr hS hG142 fun hR162=>wy 9 rfl (Qe (.tuple #[.agg c151_0.toArray,v151_1,.int .i64 r152.2.2]) rfl) (fun _=>hR162) <|wy 10 rfl (Zc (v := .agg c151_0.toArray) rfl rfl) (fun _=>hR162) <|wy 11 rfl (Zc (v:=v151_1) rfl rfl) (fun _=>hR162) <|wy 12 rfl (Zc (v := .int .i64 r152.2.2) rfl rfl) (fun _=>hR162) ?_
 refine w1 14 rfl (Q8 0 201 hS rfl zb154 rfl rfl f151_0 rfl rfl (Lf (rr zb154) f151_0) hd156 ?_)
 intro cs156 w155 hb156 ha156 hs156 hS
 refine Yr hS hG142 fun hR163=>wy 15 rfl (Qj (v151_1) rfl) (fun _=>hR163) <|wy 16 rfl (Qj (.int .i64 r152.2.2) rfl) (fun _=>hR163) ?_
 refine wd (Qa ?_)
 exact ⟨M151,b154,cs156,d157,v151_1,r152.2.1,r152.2.2,hF140,hS,hb156,hb154,f151_1,rfl,hT_0,hT_1,hT_3,rfl,rfl,hz⟩
 rintro T16 w14 ⟨M15,b17,cs17,d18,v20,l19,y21,hx22,hS,hb17,hs17,hv20,hT16_9,hT16_0,hT16_1,hT16_3,hT16_10,hT16_11,hz⟩
 replace hcx1:=Rep.mono hx22.1 hcx1
 replace hkx1_6:=Zm hx22.1 hkx1_6
 replace hE:=Qc hE hx22
 rw [clCome_j1] at hz
 refine Qh <|Qh <|Qi <|Qd (Qe (.int .i64 y21) hT16_11) <|Qd (Yp rfl rfl) ?_
 refine Qf (Qa ?_)
 refine Qr rfl (fun hc23 => ?_) (fun hc23 => ?_)
 replace hz:=Qn hz hc23
 refine Qh <|Qi <|Qd (Qe (.int .i64 y21) hT16_11) <|Qd (Qj (.int .i64 y21) rfl) ?_
 refine Qf (Qa ?_)
 cases hz
 exact Q4 (Qs (Yj rfl rfl ⟨_,M15,_,rfl,hE,(hS.sel (H':=[.box bx1 cx1 90,.stk ux1_6 9 1 xsx1_6]) [2,3] (by decide) rfl),cx1,ux1_6,xsx1_6,rfl,rfl,hcx1,hkx1_6,hpx1_6⟩))
 replace hz:=Qo hz hc23
 refine Qv (Qa ?_)
 refine Qh <|Qh <|Qi <|Qd (Qe (.pointer (some ⟨bx1,0,none⟩)) hT16_0) <|Qd (Qe (.int .i64 x4) hT16_1) <|Qd (Q6 rfl) <|Qd (Qp fa90_3 rfl) ?_
 obtain ⟨u24,hx25,hz⟩:=Qb hz
 obtain ⟨hx25a,hx25b⟩:=Qt hx25
 refine Qd (Za ia55 rfl rfl hx25a hx25b) ?_
 obtain ⟨x26,hx27,hz⟩:=Qb hz
 refine Qd (Ql (.int .i64 x26) Z5 rfl (hS.bvB 2 rfl) (vp (k:=1) rfl rfl (Ve (rr hcx1)) hx27)) <|Qd (Yu rfl rfl) ?_
 refine Qf (Qa ?_)
 refine Qr rfl (fun hc28 => ?_) (fun hc28 => ?_)
 replace hz:=Qn hz hc28
 refine Qh <|Yt [.box bx1 cx1 90] [20] Z6 hS fun w29 hS hG30 hR31=>wy 0 rfl (Qe (.pointer (some ⟨bx1,0,none⟩)) hT16_0) (fun _=>hR31) <|wy 1 rfl (Qe (.int .i64 x4) hT16_1) (fun _=>hR31) <|wy 2 rfl (Qe (.pointer (some ⟨bx1,0,none⟩)) hT16_0) (fun _=>hR31) <|wy 3 rfl (Qe (.int .i64 x4) hT16_1) (fun _=>hR31) <|wy 4 rfl (Q6 rfl) (fun _=>hR31) <|wy 5 rfl (Qp fa90_1 rfl) (fun _=>hR31) ?_
 obtain ⟨u32,hx33,hz⟩:=Qb hz
 obtain ⟨hx33a,hx33b⟩:=Qt hx33
 refine wy 6 rfl (Za ia87 rfl rfl hx33a hx33b) (fun _=>hR31) ?_
 obtain ⟨x34,hx35,hz⟩:=Qb hz
 refine Y6 7 rfl (Ql (.string x34) ts9 rfl (Ym 0 rfl) (vp (k:=1) rfl rfl (Y0 (rr hcx1)) hx35).1) hR31 <|wy 8 rfl (Qe (.string x6) hT16_3) (fun _=>hR31) <|wy 9 rfl (Qe (.pointer (some ⟨bx1,0,none⟩)) hT16_0) (fun _=>hR31) <|wy 10 rfl (Qe (.int .i64 x4) hT16_1) (fun _=>hR31) <|wy 11 rfl (Q6 rfl) (fun _=>hR31) <|wy 12 rfl (Qp fa90_3 rfl) (fun _=>hR31) ?_
 obtain ⟨u36,hx37,hz⟩:=Qb hz
 obtain ⟨hx37a,hx37b⟩:=Qt hx37
 refine wy 13 rfl (Za ia55 rfl rfl hx37a hx37b) (fun _=>hR31) ?_
 obtain ⟨x38,hx39,hz⟩:=Qb hz
 refine Y6 14 rfl (Ql (.int .i64 x38) Z5 rfl (Ym 0 rfl) (vp (k:=1) rfl rfl (Ve (rr hcx1)) hx39)) hR31 <|wy 15 rfl (Kf rfl rfl) (fun _=>hR31) <|wy 17 rfl (Q6 rfl) (fun _=>hR31) <|wy 18 rfl (Qp fa90_1 rfl) (fun _=>hR31) ?_
 obtain ⟨r42,hr41,hz⟩:=Qb hz
 refine w1 16 rfl (Z4 (vs:=[.string x34,.string x6,.int .i64 (IntKind.wrap .i64 (x38-1))]) (v := .string r42) cb82 (Jj rfl rfl rfl) hS (bkTear_ok hS.agree hr41) ?_)
 intro w40 hS
 refine Yr hS hG30 fun hR43 => ?_
 obtain ⟨u44,hx45,hz⟩:=Qb hz
 obtain ⟨hx45a,hx45b⟩:=Qt hx45
 refine wy 19 rfl (Za ia87 rfl rfl hx45a hx45b) (fun _=>hR43) ?_
 obtain ⟨_,hx47,hz⟩:=Qb hz
 have hx47:=Ke hx47
 obtain ⟨x49,hx50,hz⟩:=Qb hz
 obtain ⟨a51,hx52,hz⟩:=Qb hz
 obtain ⟨d53,hd48,hz⟩:=Qb hz
 have hq55:=(Zn hx50)
 refine w1 20 rfl (Q8 2 1 hS rfl hcx1 rfl rfl (V0 hx47:rep M15 [Value.string r42] r42) rfl rfl (GCluster.u1 (rr hcx1) (vu (k:=1) rfl rfl (Y0 (rr hcx1)) (Lf (vp (k:=1) rfl rfl (Y0 (rr hcx1)) hx50) (V0 hx47:rep M15 [Value.string r42] r42)) hx52)) hd48 ?_)
 intro cs48 w46 hb48 ha48 hs48 hS
 have hp54:=(ha48 (by omega)).trans hpx1_6
 refine ⟨nB,?_⟩
 refine wd (Qa ?_)
 refine Qh <|Yt [] [] Z6 hS fun w56 hS hG57 hR58=>wy 0 rfl (Qe (.pointer (some ⟨bx1,0,none⟩)) hT16_0) (fun _=>hR58) <|wy 1 rfl (Qe (.int .i64 x4) hT16_1) (fun _=>hR58) <|wy 2 rfl (Qe (.pointer (some ⟨bx1,0,none⟩)) hT16_0) (fun _=>hR58) <|wy 3 rfl (Qe (.int .i64 x4) hT16_1) (fun _=>hR58) <|wy 4 rfl (Qe (.pointer (some ⟨bx1,0,none⟩)) hT16_0) (fun _=>hR58) <|wy 5 rfl (Qe (.int .i64 x4) hT16_1) (fun _=>hR58) ?_
 obtain ⟨d60,hd59,hz⟩:=Qb hz
 obtain ⟨cs59,hf59,ha59⟩ : ∃ cs,fillZ (([(0,192),(192,1),(193,8)]:List (Nat × Nat))[·]?) (Zr.zc GNode) []=some cs∧rep M15 cs d60:=⟨_,Z8,Z9 (x:=({ entries:=Zr.zd,order:=Zr.zd,values:=Zr.zd }:GNode)) (Zr.zr:rep M15 (Zr.zc GNode) (Zr.zd:GNode)) hd59⟩
 refine wy 6 rfl (Zx [] tb34 Vf hf59) (fun _=>hR58) <|wy 7 rfl (Q6 rfl) (fun _=>hR58) <|wy 8 rfl (Qp fa90_0 rfl) (fun _=>hR58) ?_
 obtain ⟨u61,hx62,hz⟩:=Qb hz
 obtain ⟨hx62a,hx62b⟩:=Qt hx62
 refine wy 9 rfl (Za ia86 rfl rfl hx62a hx62b) (fun _=>hR58) <|wy 11 rfl (Q6 rfl) (fun _=>hR58) <|wy 12 rfl (Qp fa90_2 rfl) (fun _=>hR58) <|wy 15 rfl (Q6 rfl) (fun _=>hR58) <|wy 16 rfl (Qp fa90_3 rfl) (fun _=>hR58) ?_
 obtain ⟨x65,hx66,hz⟩:=Qb hz
 obtain ⟨a67,hx68,hz⟩:=Qb hz
 obtain ⟨d69,hd64,hz⟩:=Qb hz
 have hq71:=(Zn hx66)
 refine w1 10 rfl (Q8 2 201 hS rfl hb48 rfl rfl ha59 rfl rfl (K9 (rr hb48) (vu (k:=201) rfl rfl (Yz (rr hb48)) (Lf (vp (k:=201) rfl rfl (Yz (rr hb48)) hx66) ha59) hx68)) hd64 ?_)
 intro cs64 w63 hb64 ha64 hs64 hS
 have hp70:=(ha64 (by omega)).trans hp54
 refine Yr hS hG57 fun hR72 => ?_
 obtain ⟨u73,hx74,hz⟩:=Qb hz
 obtain ⟨hx74a,hx74b⟩:=Qt hx74
 refine wy 13 rfl (Za Jq rfl rfl hx74a hx74b) (fun _=>hR72) ?_
 obtain ⟨x77,hx78,hz⟩:=Qb hz
 obtain ⟨a79,hx80,hz⟩:=Qb hz
 obtain ⟨d81,hd76,hz⟩:=Qb hz
 have hq83:=(Zn hx78)
 refine w1 14 rfl (Q8 2 1 hS rfl hb64 rfl rfl (rb true:rep M15 _ _) rfl rfl (GCluster.u2 (rr hb64) (vu (k:=1) rfl rfl (Y4 (rr hb64)) (Lf (vp (k:=1) rfl rfl (Y4 (rr hb64)) hx78) (rb true:rep M15 _ _)) hx80)) hd76 ?_)
 intro cs76 w75 hb76 ha76 hs76 hS
 have hp82:=(ha76 (by omega)).trans hp70
 refine Yr hS hG57 fun hR84 => ?_
 obtain ⟨u85,hx86,hz⟩:=Qb hz
 obtain ⟨hx86a,hx86b⟩:=Qt hx86
 refine wy 17 rfl (Za ia55 rfl rfl hx86a hx86b) (fun _=>hR84) ?_
 obtain ⟨x89,hx90,hz⟩:=Qb hz
 obtain ⟨a91,hx92,hz⟩:=Qb hz
 obtain ⟨d93,hd88,hz⟩:=Qb hz
 have hq95:=(Zn hx90)
 refine w1 18 rfl (Q8 2 1 hS rfl hb76 rfl rfl (ri 0:rep M15 _ _) rfl rfl (GCluster.u3 (rr hb76) (vu (k:=1) rfl rfl (Ve (rr hb76)) (Lf (vp (k:=1) rfl rfl (Ve (rr hb76)) hx90) (ri 0:rep M15 _ _)) hx92)) hd88 ?_)
 intro cs88 w87 hb88 ha88 hs88 hS
 have hp94:=(ha88 (by omega)).trans hp82
 refine Yr hS hG57 fun hR96 => ?_
 refine wd (Qa ?_)
 refine Qh <|Qi <|Qd (Qj (.int .i64 6) rfl) ?_
 refine Qf (Qa ?_)
 cases hz
 exact Q4 (Qs (Yj rfl rfl ⟨_,M15,_,rfl,hE,(hS.sel (H':=[.box bx1 cs88 90,.stk ux1_6 9 1 xsx1_6]) [2,3] (by decide) rfl),cs88,ux1_6,xsx1_6,rfl,rfl,hb88,hkx1_6,hp94⟩))
 replace hz:=Qo hz hc28
 refine Qv (Qa ?_)
 refine Qh <|Qh <|Yt [.box bx1 cx1 90] [16] Z6 hS fun w97 hS hG98 hR99=>wy 0 rfl (Qe (.pointer (some ⟨bx1,0,none⟩)) hT16_0) (fun _=>hR99) <|wy 1 rfl (Qe (.int .i64 x4) hT16_1) (fun _=>hR99) <|wy 2 rfl (Qe (.pointer (some ⟨bx1,0,none⟩)) hT16_0) (fun _=>hR99) <|wy 3 rfl (Qe (.int .i64 x4) hT16_1) (fun _=>hR99) <|wy 4 rfl (Q6 rfl) (fun _=>hR99) <|wy 5 rfl (Qp fa90_1 rfl) (fun _=>hR99) ?_
 obtain ⟨u100,hx101,hz⟩:=Qb hz
 obtain ⟨hx101a,hx101b⟩:=Qt hx101
 refine wy 6 rfl (Za ia87 rfl rfl hx101a hx101b) (fun _=>hR99) ?_
 obtain ⟨x102,hx103,hz⟩:=Qb hz
 refine Y6 7 rfl (Ql (.string x102) ts9 rfl (Ym 0 rfl) (vp (k:=1) rfl rfl (Y0 (rr hcx1)) hx103).1) hR99 <|wy 8 rfl (Qe (.string x6) hT16_3) (fun _=>hR99) <|wy 13 rfl (Q6 rfl) (fun _=>hR99) <|wy 14 rfl (Qp fa90_1 rfl) (fun _=>hR99) ?_
 obtain ⟨r106,hr105,hz⟩:=Qb hz
 refine w1 9 rfl (Z4 (vs:=[.string x102,.string x6]) (v := .tuple #[.string r106.1,.int .i64 r106.2]) cb83 (Ya rfl rfl) hS (bkWrite_ok hS.agree hr105) ?_)
 intro w104 hS
 refine Yr hS hG98 fun hR107=>wy 10 rfl (Qe (.tuple #[.string r106.1,.int .i64 r106.2]) rfl) (fun _=>hR107) <|wy 11 rfl (Zc (v := .string r106.1) rfl rfl) (fun _=>hR107) <|wy 12 rfl (Zc (v := .int .i64 r106.2) rfl rfl) (fun _=>hR107) ?_
 obtain ⟨u108,hx109,hz⟩:=Qb hz
 obtain ⟨hx109a,hx109b⟩:=Qt hx109
 refine wy 15 rfl (Za ia87 rfl rfl hx109a hx109b) (fun _=>hR107) ?_
 obtain ⟨_,hx111,hz⟩:=Qb hz
 have hx111:=Ke hx111
 obtain ⟨x113,hx114,hz⟩:=Qb hz
 obtain ⟨a115,hx116,hz⟩:=Qb hz
 obtain ⟨d117,hd112,hz⟩:=Qb hz
 have hq119:=(Zn hx114)
 refine w1 16 rfl (Q8 2 1 hS rfl hcx1 rfl rfl (V0 hx111:rep M15 [Value.string r106.1] r106.1) rfl rfl (GCluster.u1 (rr hcx1) (vu (k:=1) rfl rfl (Y0 (rr hcx1)) (Lf (vp (k:=1) rfl rfl (Y0 (rr hcx1)) hx114) (V0 hx111:rep M15 [Value.string r106.1] r106.1)) hx116)) hd112 ?_)
 intro cs112 w110 hb112 ha112 hs112 hS
 have hp118:=(ha112 (by omega)).trans hpx1_6
 refine ⟨nB,?_⟩
 refine wy 17 rfl (Qj (.int .i64 r106.2) rfl) nB ?_
 refine wd (Qa ?_)
 refine Qh <|Qi <|Qd (Qe (.int .i64 r106.2) rfl) <|Qd (Yp rfl rfl) ?_
 refine Qf (Qa ?_)
 refine Qr rfl (fun hc120 => ?_) (fun hc120 => ?_)
 replace hz:=Qn hz hc120
 refine Qh <|Qi <|Q2 2 rfl ?_
 refine Qf (Qa ?_)
 cases hz
 exact Q4 (Qs (Yj rfl rfl ⟨_,M15,_,rfl,hE,(hS.sel (H':=[.box bx1 cs112 90,.stk ux1_6 9 1 xsx1_6]) [2,3] (by decide) rfl),cs112,ux1_6,xsx1_6,rfl,rfl,hb112,hkx1_6,hp118⟩))
 replace hz:=Qo hz hc120
 refine Qv (Qa ?_)
 refine Qh <|Yt [.box b17 cs17 34] [] Z6 hS fun w121 hS hG122 hR123=>wy 0 rfl (Qe (.pointer (some ⟨bx1,0,none⟩)) hT16_0) (fun _=>hR123) <|wy 1 rfl (Qe (.int .i64 x4) hT16_1) (fun _=>hR123) ?_
 have ha124:=(rr hb17)
 refine Y6 2 rfl (Zg Vc hT16_9 (Ym 0 rfl) (Rep.len ha124)) hR123 <|wy 3 rfl (Q6 rfl) (fun _=>hR123) <|wy 4 rfl (Qp fa90_0 rfl) (fun _=>hR123) ?_
 obtain ⟨u125,hx126,hz⟩:=Qb hz
 obtain ⟨hx126a,hx126b⟩:=Qt hx126
 refine wy 5 rfl (Za ia86 rfl rfl hx126a hx126b) (fun _=>hR123) ?_
 obtain ⟨x129,hx130,hz⟩:=Qb hz
 obtain ⟨a131,hx132,hz⟩:=Qb hz
 obtain ⟨d133,hd128,hz⟩:=Qb hz
 have hq135:=(Zn hx130)
 refine w1 6 rfl (Q8 2 201 hS rfl hb112 rfl rfl ha124 rfl rfl (K9 (rr hb112) (vu (k:=201) rfl rfl (Yz (rr hb112)) (Lf (vp (k:=201) rfl rfl (Yz (rr hb112)) hx130) ha124) hx132)) hd128 ?_)
 intro cs128 w127 hb128 ha128 hs128 hS
 have hp134:=(ha128 (by omega)).trans hp118
 refine Yr hS hG122 fun hR136 => ?_
 refine wd (Qa ?_)
 refine Qh <|Qi <|Qd (Qe (.pointer (some ⟨bx1,0,none⟩)) hT16_0) <|Qd (Qe (v20) hT16_10) ?_
 obtain ⟨r139,hr138,hz⟩:=Qb hz
 refine Qu (Zw (vs:=[.pointer (some ⟨bx1,0,none⟩),v20]) (L:=[.box bx1 cs128 90,.stk ux1_6 9 1 xsx1_6]) (R:=[.box b17 cs17 34,.box b8 cx5 118]) (rv:=(fun M' u L' => ∃ k0 u1 x1,u = .tuple #[]∧L'=[.box bx1 k0 90,.stk u1 9 1 x1]∧rep M' k0 r139.1∧skr M' u1 x1 r139.2∧sl k0 1993 1=[u1])) cb49 (Ya rfl rfl) hS (hS.sel [2,3,0,1] (by decide) rfl) (fun hS=>clSend_ok hS hb128 hkx1_6 hp134 hv20 hr138) ?_)
 rintro u138 M138 w137 L138 hx138 ⟨k0_138,u1_138,x1_138,rfl,hL138,f138_0,f138_1,f138_2⟩ hS
 replace hS:=hS _ hL138
 replace hE:=Qc hE hx138
 refine Qf (Qa ?_)
 refine Qh <|Qi <|Qd (Qj (.int .i64 0) rfl) ?_
 refine Qf (Qa ?_)
 cases hz
 exact Q4 (Yj rfl rfl ⟨_,M138,_,rfl,hE,(hS.sel (H':=[.box bx1 k0_138 90,.stk u1_138 9 1 x1_138]) [0,1] (by decide) rfl),k0_138,u1_138,x1_138,rfl,rfl,f138_0,f138_1,f138_2⟩)
def clFrame_j4 (fu:Nat) (d36:GFrame) (d49:GCluster) (l52:List ByteArray) (d60:GCase) (l61:List GFrame) (y63:Int):Option (GReply × GCluster × (List ByteArray)) :=
 (bif y63 != 0 then
 (some ({ code:=y63,n:=Zr.zd,values:=Zr.zd }:GReply)).bind fun d67 =>
 (some d67).bind fun d70 =>
 some (d70,d49,l52)
 else
 (inR d36.id 32).bind fun _ =>
 (idxV d49.cases d36.id).bind fun x79 =>
 (setV d49.cases d36.id d60).bind fun a81 =>
 (some ({ d49 with cases:=a81 }:GCluster)).bind fun d83 =>
 (clSendD fu d83 l52 l61).bind fun r89 =>
 (clToldD fu r89.1 d36.id).bind fun r92 =>
 (some r92).bind fun d95 =>
 some (d95,r89.1,r89.2))
def clFrame_j3 (fu:Nat) (d36:GFrame) (d47:GReply) (d49:GCluster) (l52:List ByteArray):Option (GReply × GCluster × (List ByteArray)) :=
 (inR d36.id 32).bind fun _ =>
 (idxV d49.cases d36.id).bind fun x102 =>
 (postTakeD fu x102 d36.id d36).bind fun r108 =>
 (some r108.1).bind fun d113 =>
 clFrame_j4 fu d36 d49 l52 d113 r108.2.1 r108.2.2
def clFrame_j5 (fu:Nat) (d13:GReply) (x16:ByteArray) (d22:GCluster) (l25:List ByteArray) (d36:GFrame) (c124:Bool):Option (GReply × GCluster × (List ByteArray)) :=
 (bif c124 then
 (clComeD fu d22 l25 d36.node d36 x16).bind fun r130 =>
 (bif r130.1 != 0 then
 (some ({ code:=r130.1,n:=Zr.zd,values:=Zr.zd }:GReply)).bind fun d133 =>
 (some d133).bind fun d136 =>
 some (d136,r130.2.1,r130.2.2)
 else
 (some ({ code:=Zr.zd,n:=d36.id,values:=Zr.zd }:GReply)).bind fun d138 =>
 (some d138).bind fun d141 =>
 some (d141,r130.2.1,r130.2.2))
 else
 clFrame_j3 fu d36 d13 d22 l25)
def clFrame_j2 (fu:Nat) (x4:GAct) (d13:GReply) (x16:ByteArray) (d22:GCluster) (l25:List ByteArray):Option (GReply × GCluster × (List ByteArray)) :=
 (decodeD fu x16).bind fun r31 =>
 (some r31.1).bind fun d36 =>
 (bif x4.kind==4 then
 (some ({ code:=Zr.zd,n:=d36.id,values:=Zr.zd }:GReply)).bind fun d39 =>
 (some d39).bind fun d42 =>
 some (d42,d22,l25)
 else
 (bif d36.kind==1 then
 clFrame_j5 fu d13 x16 d22 l25 d36 true
 else
 clFrame_j5 fu d13 x16 d22 l25 d36 (d36.kind==3)))
def clFrame_j1 (fu:Nat) (x1:GCluster) (l3:List ByteArray) (x4:GAct) (d13:GReply):Option (GReply × GCluster × (List ByteArray)) :=
 (idx l3 x4.n).bind fun x16 =>
 (bif x4.kind != 3 then
 (delL l3 x4.n (IntKind.wrap .i64 (x4.n+1))).bind fun l151 =>
 (some ({ x1 with net:=Hole.mk }:GCluster)).bind fun d155 =>
 clFrame_j2 fu x4 d13 x16 d155 l151
 else
 clFrame_j2 fu x4 d13 x16 x1 l3)
def clFrame_j6 (fu:Nat) (x1:GCluster) (l3:List ByteArray) (x4:GAct) (c161:Bool):Option (GReply × GCluster × (List ByteArray)) :=
 (bif c161 then
 (some ({ code:=4,n:=Zr.zd,values:=Zr.zd }:GReply)).bind fun d165 =>
 (some d165).bind fun d168 =>
 some (d168,x1,l3)
 else
 clFrame_j1 fu x1 l3 x4 (Zr.zd:GReply))
def clFrameD (fu:Nat) (x1:GCluster) (l3:List ByteArray) (x4:GAct):Option (GReply × GCluster × (List ByteArray)) :=
 (bif decide (x4.n<0) then
 clFrame_j6 fu x1 l3 x4 true
 else
 clFrame_j6 fu x1 l3 x4 (decide (x4.n≥(l3.length:Int))))
set_option maxRecDepth 100000 in
set_option maxHeartbeats 4000000 in
theorem clFrame_ok {M:Mm} {w:World} {bx1:Nat} {cx1:List Value} {ux1_6:Value} {xsx1_6:List Value} {cx4:List Value} {x1:GCluster} {l3:List ByteArray} {x4:GAct} {fu:Nat} {r:GReply × GCluster × (List ByteArray)} (hS:St w (lentX [.box bx1 cx1 90,.stk ux1_6 9 1 xsx1_6]) M [.box bx1 cx1 90,.stk ux1_6 9 1 xsx1_6] w) (hcx1:rep M cx1 x1) (hkx1_6:skr M ux1_6 xsx1_6 l3) (hpx1_6:sl cx1 1993 1=[ux1_6]) (hcx4:rep M cx4 x4) (hz:clFrameD fu x1 l3 x4=some r) :
    Calls Try.prog 48 #[.pointer (some ⟨bx1,0,none⟩),.agg cx4.toArray] w (GivesL M w [.box bx1 cx1 90,.stk ux1_6 9 1 xsx1_6] (fun M' u L' => ∃ c0 k0 u1 x1,u = .agg c0.toArray∧L'=[.box bx1 k0 90,.stk u1 9 1 x1]∧rep M' c0 r.1∧rep M' k0 r.2.1∧skr M' u1 x1 r.2.2∧sl k0 1993 1=[u1])):=by
 refine Zh Try.func48 rfl 115 rfl rfl (by kernel_rfl) fun T hT => ?_
 have hT_0:T 0 = .pointer (some ⟨bx1,0,none⟩):=hT 0
 have hT_1:T 1 = .agg cx4.toArray:=hT 1
 clear hT
 have hE:=Qg w.heap.size (lentX [.box bx1 cx1 90,.stk ux1_6 9 1 xsx1_6]) M
 rw [clFrameD] at hz
 refine Qh <|Qi ?_
 refine Qu (Yo (v := .agg cx4.toArray) (cs:=cx4) hT_1 rfl hS ?_)
 intro b6 w5 hb6 hS
 refine Qu (Zf tz40 hS ?_)
 intro b8 w7 hb8 hS
 have zb8:rep M (Zr.zc GReply) (Zr.zd:GReply):=Zr.zr
 refine Qf (Qa ?_)
 refine Qz (fun T' w' => ∃ M10 cs12 d13,Mm.ext w.heap.size (lentX [.box bx1 cx1 90,.stk ux1_6 9 1 xsx1_6]) M M10∧St w (lentX [.box bx1 cx1 90,.stk ux1_6 9 1 xsx1_6]) M10 [.box b8 cs12 40,.box b6 cx4 43,.box bx1 cx1 90,.stk ux1_6 9 1 xsx1_6] w'∧rep M10 cs12 d13∧T' 0 = .pointer (some ⟨bx1,0,none⟩)∧T' 3 = .pointer (some ⟨b6,0,none⟩)∧T' 4 = .pointer (some ⟨b8,0,none⟩)∧clFrame_j1 fu x1 l3 x4 d13=some r) ?_ ?_
 have hF157:=Qg w.heap.size (lentX [.box bx1 cx1 90,.stk ux1_6 9 1 xsx1_6]) M
 refine Qz (fun T' w' => ∃ M159 c161,Mm.ext w.heap.size (lentX [.box bx1 cx1 90,.stk ux1_6 9 1 xsx1_6]) M M159∧St w (lentX [.box bx1 cx1 90,.stk ux1_6 9 1 xsx1_6]) M159 [.box b8 (Zr.zc GReply) 40,.box b6 cx4 43,.box bx1 cx1 90,.stk ux1_6 9 1 xsx1_6] w'∧T' 0 = .pointer (some ⟨bx1,0,none⟩)∧T' 3 = .pointer (some ⟨b6,0,none⟩)∧T' 4 = .pointer (some ⟨b8,0,none⟩)∧T' 24 = .bool c161∧clFrame_j6 fu x1 l3 x4 c161=some r) ?_ ?_
 have hF169:=Qg w.heap.size (lentX [.box bx1 cx1 90,.stk ux1_6 9 1 xsx1_6]) M
 refine Yt [.box b6 cx4 43,.box bx1 cx1 90] [] Z6 hS fun w170 hS hG171 hR172=>wy 0 rfl (Qp Ks rfl) (fun _=>hR172) <|Y6 1 rfl (Ql (.int .i64 x4.n) Z5 rfl (Ym 0 rfl) (V5 (rr hcx4))) hR172 <|wy 2 rfl (Zq rfl rfl) (fun _=>hR172) <|wy 3 rfl (Qe (.bool (decide (x4.n<0))) rfl) (fun _=>hR172) ?_
 rcases ic hz with ⟨hc173,hz⟩ | ⟨hc173,hz⟩<;>rw [hc173]
 refine Yg 4 (j:=3) rfl rfl rfl rfl (fun _=>hR172) <|Yg 5 (j:=3) rfl rfl rfl rfl (fun _=>hR172) <|Yg 6 (j:=3) rfl rfl rfl rfl (fun _=>hR172) <|Yg 7 (j:=3) rfl rfl rfl rfl (fun _=>hR172) <|Yg 8 (j:=3) rfl rfl rfl rfl (fun _=>hR172) <|Yg 9 (j:=3) rfl rfl rfl rfl (fun _=>hR172) <|Yg 10 (j:=3) rfl rfl rfl rfl (fun _=>hR172) <|Yg 11 (j:=3) rfl rfl rfl rfl (fun _=>hR172) <|wy 12 rfl (Zp (.bool true) rfl rfl) (fun _=>hR172) ?_
 refine wd (Qa ?_)
 exact ⟨M,true,hF169,hS,hT_0,rfl,rfl,rfl,hz⟩
 refine Vq 4 rfl rfl rfl (Qp Ks rfl) (fun _=>hR172) <|Kh 5 rfl rfl rfl (Ql (.int .i64 x4.n) Z5 rfl (Ym 0 rfl) (V5 (rr hcx4))) hR172 <|Vq 6 rfl rfl rfl (Qe (.pointer (some ⟨bx1,0,none⟩)) hT_0) (fun _=>hR172) <|Vq 7 rfl rfl rfl (Q6 rfl) (fun _=>hR172) <|Vq 8 rfl rfl rfl (Qp Jo rfl) (fun _=>hR172) <|Kh 9 rfl rfl rfl (Ql ux1_6 ts72 rfl (Ym 1 rfl) hpx1_6) hR172 ?_
 obtain ⟨a174,c174,hv174,_⟩:=Vj hkx1_6
 refine Vq 10 rfl rfl rfl (Zk Vl (Vw hv174 rfl)) (fun _=>hR172) <|Vq 11 rfl rfl rfl (Va rfl rfl) (fun _=>hR172) <|wy 12 rfl (Ze (.bool (decide (x4.n≥(l3.length:Int)))) rfl rfl) (fun _=>hR172) ?_
 refine wd (Qa ?_)
 exact ⟨M,(decide (x4.n≥(l3.length:Int))),hF169,hS,hT_0,rfl,rfl,rfl,hz⟩
 rintro T160 w158 ⟨M159,c161,hx162,hS,hT160_0,hT160_3,hT160_4,hT160_24,hz⟩
 replace hcx1:=Rep.mono hx162.1 hcx1
 replace hkx1_6:=Zm hx162.1 hkx1_6
 replace zb8:=Rep.mono hx162.1 zb8
 replace hE:=Qc hE hx162
 replace hF157:=Qc hF157 hx162
 rw [clFrame_j6] at hz
 refine Qr hT160_24 (fun hc163 => ?_) (fun hc163 => ?_)
 replace hz:=Qn hz hc163
 refine Qh <|Qi ?_
 have k164_0:=V3 (Zr.zr:rep M159 (Zr.zc GReply) (Zr.zd:GReply)) (ri 4:rep M159 _ _)
 obtain ⟨d165,hd164,hz⟩:=Qb hz
 obtain ⟨cs164,hf164,ha164⟩ : ∃ cs,fillZ (([(0,1),(1,1),(2,1)]:List (Nat × Nat))[·]?) (Zr.zc GReply) [(0,.int .i64 4)]=some cs∧rep M159 cs d165:=⟨_,(Zb (Zr.zr:rep M159 (Zr.zc GReply) (Zr.zd:GReply)) rfl rfl (Rep.len (ri 4:rep M159 _ _)) (by decide) Z8),Z9 (x:=({ code:=4,n:=Zr.zd,values:=Zr.zd }:GReply)) k164_0 hd164⟩
 refine Qd (Zx [(0,.int .i64 4)] tb40 (Ys rfl Vf) hf164) ?_
 obtain ⟨d168,hd167,hz⟩:=Qb hz
 refine Qu (Q8 0 3 hS rfl zb8 hT160_4 rfl ha164 rfl rfl (Lf (rr zb8) ha164) hd167 ?_)
 intro cs167 w166 hb167 ha167 hs167 hS
 refine Qf (Qa ?_)
 cases hz
 exact Q4 (Qs (Jp (j:=0) rfl hT160_4 (by rw [Rep.len hb167];exact Kr) hS rfl ⟨_,M159,_,rfl,hE,(hS.sel (H':=[.box bx1 cx1 90,.stk ux1_6 9 1 xsx1_6]) [2,3] (by decide) rfl),cs167,cx1,ux1_6,xsx1_6,rfl,rfl,hb167,hcx1,hkx1_6,hpx1_6⟩))
 replace hz:=Qo hz hc163
 refine Qv (Qa ?_)
 exact ⟨M159,(Zr.zc GReply),(Zr.zd:GReply),hF157,hS,zb8,hT160_0,hT160_3,hT160_4,hz⟩
 rintro T11 w9 ⟨M10,cs12,d13,hx14,hS,hb12,hT11_0,hT11_3,hT11_4,hz⟩
 replace hcx1:=Rep.mono hx14.1 hcx1
 replace hkx1_6:=Zm hx14.1 hkx1_6
 replace hcx4:=Rep.mono hx14.1 hcx4
 replace hE:=Qc hE hx14
 rw [clFrame_j1] at hz
 refine Qh <|W_drawq Z6 (by kernel_rfl) hS <|Yn (Qe (.pointer (some ⟨bx1,0,none⟩)) hT11_0) <|Yn (Q6 rfl) <|Yn (Qp Jo rfl) <|Yn (Ql ux1_6 ts72 rfl (bvBS (j:=2) rfl) hpx1_6) <|Yn (Qp Ks hT11_3) <|Yn (Ql (.int .i64 x4.n) Z5 rfl (bvBS (j:=1) rfl) (V5 (rr hcx4))) ?_
 obtain ⟨x16,hx15,hz⟩:=Qb hz
 obtain ⟨b15,o15,c15,hv15,hi15,hj15,hM15,hr15⟩:=skv_at (hS.skv (j:=3) rfl hkx1_6) hx15
 replace hr15:rep _ (sl xsx1_6 (o15+Int.toNat x4.n*1) 1) x16:=hr15
 refine Yn (Yq il72 rfl hv15 rfl hi15 hj15) <|Yn (Ql (.string x16) ts9 rfl (bvKS (j:=3) rfl hM15) hr15.1) <|Yn (Qj (.string x16) rfl) <|WQ_nil ?_
 intro w17 hS
 refine (Qa ?_)
 refine Qz (fun T' w' => ∃ M19 cs21 d22 v23 xs24 l25,Mm.ext w.heap.size (lentX [.box bx1 cx1 90,.stk ux1_6 9 1 xsx1_6]) M10 M19∧St w (lentX [.box bx1 cx1 90,.stk ux1_6 9 1 xsx1_6]) M19 [.box b8 cs12 40,.box b6 cx4 43,.box bx1 cs21 90,.stk v23 9 1 xs24] w'∧rep M19 cs21 d22∧skr M19 v23 xs24 l25∧sl cs21 (0+1993) 1=[v23]∧T' 0 = .pointer (some ⟨bx1,0,none⟩)∧T' 3 = .pointer (some ⟨b6,0,none⟩)∧T' 4 = .pointer (some ⟨b8,0,none⟩)∧T' 5 = .string x16∧clFrame_j2 fu x4 d13 x16 d22 l25=some r) ?_ ?_
 have hF144:=Qg w.heap.size (lentX [.box bx1 cx1 90,.stk ux1_6 9 1 xsx1_6]) M10
 refine Qh <|Qi <|Qd (Qp Ja hT11_3) <|Qd (Ql (.int .i64 x4.kind) Z5 rfl (hS.bvB 1 rfl) (Ko (rr hcx4))) <|Qd (Yp rfl rfl) ?_
 refine Qf (Qa ?_)
 refine Qr rfl (fun hc145 => ?_) (fun hc145 => ?_)
 replace hz:=Qn hz hc145
 refine Yt [.box b6 cx4 43,.box bx1 cx1 90] [13] Z6 hS fun w146 hS hG147 hR148=>wy 0 rfl (Qe (.pointer (some ⟨bx1,0,none⟩)) hT11_0) (fun _=>hR148) <|wy 1 rfl (Qe (.pointer (some ⟨bx1,0,none⟩)) hT11_0) (fun _=>hR148) <|wy 2 rfl (Q6 rfl) (fun _=>hR148) <|wy 3 rfl (Qp Jo rfl) (fun _=>hR148) <|Y6 4 rfl (Ql ux1_6 ts72 rfl (Ym 1 rfl) hpx1_6) hR148 <|wy 5 rfl (Qp Ks hT11_3) (fun _=>hR148) <|Y6 6 rfl (Ql (.int .i64 x4.n) Z5 rfl (Ym 0 rfl) (V5 (rr hcx4))) hR148 <|wy 7 rfl (Qp Ks hT11_3) (fun _=>hR148) <|Y6 8 rfl (Ql (.int .i64 x4.n) Z5 rfl (Ym 0 rfl) (V5 (rr hcx4))) hR148 <|wy 9 rfl (Zz rfl rfl) (fun _=>hR148) ?_
 obtain ⟨l151,hr150,hz⟩:=Qb hz
 refine w1 10 rfl (O_delS (j:=3) cb66 (Jj rfl rfl rfl) hS rfl hkx1_6 hr150 ?_)
 intro v150 xs150 w149 hk150 hS
 refine Yr hS hG147 fun hR152=>wy 11 rfl (Q6 rfl) (fun _=>hR152) <|wy 12 rfl (Qp Jo rfl) (fun _=>hR152) ?_
 obtain ⟨d155,hd154,hz⟩:=Qb hz
 refine w1 13 rfl (Q8 2 1 hS rfl hcx1 rfl rfl (Ki hk150) (skr_cells hk150) rfl (GCluster.u6 (rr hcx1) (Lf (GCluster.p6 (rr hcx1)) (Ki hk150))) hd154 ?_)
 intro cs154 w153 hb154 ha154 hs154 hS
 have hp156:=hs154
 refine ⟨nB,?_⟩
 refine wd (Qa ?_)
 exact ⟨M10,cs154,d155,v150,xs150,l151,hF144,hS,hb154,hk150,hp156,hT11_0,hT11_3,hT11_4,rfl,hz⟩
 replace hz:=Qo hz hc145
 refine Qv (Qa ?_)
 exact ⟨M10,cx1,x1,ux1_6,xsx1_6,l3,hF144,hS,hcx1,hkx1_6,hpx1_6,hT11_0,hT11_3,hT11_4,rfl,hz⟩
 rintro T20 w18 ⟨M19,cs21,d22,v23,xs24,l25,hx28,hS,hb21,hk26,hp27,hT20_0,hT20_3,hT20_4,hT20_5,hz⟩
 rw [clFrame_j2] at hz
 refine Qh <|Qi <|Qd (Qe (.string x16) hT20_5) ?_
 obtain ⟨r31,hr30,hz⟩:=Qb hz
 refine Qu (Y1 (vs:=[.string x16]) (rv:=(fun M' u => ∃ c0,u = .tuple #[.agg c0.toArray,.int .i64 r31.2]∧rep M' c0 r31.1)) cb67 (Zu rfl) hS (decode_ok hS.agree hr30) ?_)
 intro u30 M30 w29 hx30 hu30 hS
 obtain ⟨c30_0,hq30,f30_0⟩:=hu30
 subst hq30
 replace hcx4:=Rep.mono (hx28.1.trans hx30.1) hcx4
 replace hb12:=Rep.mono (hx28.1.trans hx30.1) hb12
 replace hb21:=Rep.mono hx30.1 hb21
 replace hk26:=Zm hx30.1 hk26
 replace hE:=Qc hE (hx28.trans hx30)
 refine Qd (Qe (.tuple #[.agg c30_0.toArray,.int .i64 r31.2]) rfl) <|Qd (Zc (v := .agg c30_0.toArray) rfl rfl) <|Qd (Zc (v := .int .i64 r31.2) rfl rfl) ?_
 refine Qu (Zf tz118 hS ?_)
 intro b33 w32 hb33 hS
 have zb33:rep M30 (Zr.zc GFrame) (Zr.zd:GFrame):=Zr.zr
 obtain ⟨d36,hd35,hz⟩:=Qb hz
 refine Qu (Q8 0 7 hS rfl zb33 rfl rfl f30_0 rfl rfl (Lf (rr zb33) f30_0) hd35 ?_)
 intro cs35 w34 hb35 ha35 hs35 hS
 refine Qd (Qj (.int .i64 r31.2) rfl) ?_
 refine Qf (Qa ?_)
 refine Qh <|Qh <|Qi <|Qd (Qp Ja hT20_3) <|Qd (Ql (.int .i64 x4.kind) Z5 rfl (hS.bvB 2 rfl) (Ko (rr hcx4))) <|Qd (Yc rfl rfl) ?_
 refine Qf (Qa ?_)
 refine Qr rfl (fun hc37 => ?_) (fun hc37 => ?_)
 replace hz:=Qn hz hc37
 refine Qh <|Qi <|Qd (Qp Yl rfl) <|Qd (Ql (.int .i64 d36.id) Z5 rfl (hS.bvB 0 rfl) (Yb (rr hb35))) ?_
 have k38_0:=GReply.w1 (Zr.zr:rep M30 (Zr.zc GReply) (Zr.zd:GReply)) (ri d36.id:rep M30 _ _)
 obtain ⟨d39,hd38,hz⟩:=Qb hz
 obtain ⟨cs38,hf38,ha38⟩ : ∃ cs,fillZ (([(0,1),(1,1),(2,1)]:List (Nat × Nat))[·]?) (Zr.zc GReply) [(1,.int .i64 d36.id)]=some cs∧rep M30 cs d39:=⟨_,(Zb (Zr.zr:rep M30 (Zr.zc GReply) (Zr.zd:GReply)) rfl rfl (Rep.len (ri d36.id:rep M30 _ _)) (by decide) Z8),Z9 (x:=({ code:=Zr.zd,n:=d36.id,values:=Zr.zd }:GReply)) k38_0 hd38⟩
 refine Qd (Zx [(1,.int .i64 d36.id)] tb40 (Ys rfl Vf) hf38) ?_
 obtain ⟨d42,hd41,hz⟩:=Qb hz
 refine Qu (Q8 1 3 hS rfl hb12 hT20_4 rfl ha38 rfl rfl (Lf (rr hb12) ha38) hd41 ?_)
 intro cs41 w40 hb41 ha41 hs41 hS
 refine Qf (Qa ?_)
 cases hz
 exact Q4 (Qs (Jp (j:=1) rfl hT20_4 (by rw [Rep.len hb41];exact Kr) hS rfl ⟨_,M30,_,rfl,hE,(hS.sel (H':=[.box bx1 cs21 90,.stk v23 9 1 xs24]) [3,4] (by decide) rfl),cs41,cs21,v23,xs24,rfl,rfl,hb41,hb21,hk26,hp27⟩))
 replace hz:=Qo hz hc37
 refine Qv (Qa ?_)
 refine Qz (fun T' w' => ∃ M44 cs46 d47 cs48 d49 v50 xs51 l52,Mm.ext w.heap.size (lentX [.box bx1 cx1 90,.stk ux1_6 9 1 xsx1_6]) M30 M44∧St w (lentX [.box bx1 cx1 90,.stk ux1_6 9 1 xsx1_6]) M44 [.box b33 cs35 118,.box b8 cs46 40,.box b6 cx4 43,.box bx1 cs48 90,.stk v50 9 1 xs51] w'∧rep M44 cs46 d47∧rep M44 cs48 d49∧skr M44 v50 xs51 l52∧sl cs48 (0+1993) 1=[v50]∧T' 0 = .pointer (some ⟨bx1,0,none⟩)∧T' 4 = .pointer (some ⟨b8,0,none⟩)∧T' 6 = .pointer (some ⟨b33,0,none⟩)∧clFrame_j3 fu d36 d47 d49 l52=some r) ?_ ?_
 have hF120:=Qg w.heap.size (lentX [.box bx1 cx1 90,.stk ux1_6 9 1 xsx1_6]) M30
 refine Qz (fun T' w' => ∃ M122 c124,Mm.ext w.heap.size (lentX [.box bx1 cx1 90,.stk ux1_6 9 1 xsx1_6]) M30 M122∧St w (lentX [.box bx1 cx1 90,.stk ux1_6 9 1 xsx1_6]) M122 [.box b33 cs35 118,.box b8 cs12 40,.box b6 cx4 43,.box bx1 cs21 90,.stk v23 9 1 xs24] w'∧T' 0 = .pointer (some ⟨bx1,0,none⟩)∧T' 4 = .pointer (some ⟨b8,0,none⟩)∧T' 5 = .string x16∧T' 6 = .pointer (some ⟨b33,0,none⟩)∧T' 68 = .bool c124∧clFrame_j5 fu d13 x16 d22 l25 d36 c124=some r) ?_ ?_
 have hF142:=Qg w.heap.size (lentX [.box bx1 cx1 90,.stk ux1_6 9 1 xsx1_6]) M30
 refine Qi <|Qd (Qp Vx rfl) <|Qd (Ql (.int .i64 d36.kind) Z5 rfl (hS.bvB 0 rfl) (Y2 (rr hb35))) <|Qd (Yc rfl rfl) <|Qd (Qe (.bool (d36.kind==1)) rfl) ?_
 rcases ic hz with ⟨hc143,hz⟩ | ⟨hc143,hz⟩<;>rw [hc143]
 refine Q2 4 rfl ?_
 refine Qf (Qa ?_)
 exact ⟨M30,true,hF142,hS,hT20_0,hT20_4,hT20_5,rfl,rfl,hz⟩
 refine Qk rfl rfl (Qp Vx rfl) <|Qk rfl rfl (Ql (.int .i64 d36.kind) Z5 rfl (hS.bvB 0 rfl) (Y2 (rr hb35))) <|Qk rfl rfl (Yc rfl rfl) <|Qd (Ze (.bool (d36.kind==3)) rfl rfl) ?_
 refine Qf (Qa ?_)
 exact ⟨M30,(d36.kind==3),hF142,hS,hT20_0,hT20_4,hT20_5,rfl,rfl,hz⟩
 rintro T123 w121 ⟨M122,c124,hx125,hS,hT123_0,hT123_4,hT123_5,hT123_6,hT123_68,hz⟩
 replace hb12:=Rep.mono hx125.1 hb12
 replace hb21:=Rep.mono hx125.1 hb21
 replace hk26:=Zm hx125.1 hk26
 replace hb35:=Rep.mono hx125.1 hb35
 replace hE:=Qc hE hx125
 replace hF120:=Qc hF120 hx125
 rw [clFrame_j5] at hz
 refine Qr hT123_68 (fun hc126 => ?_) (fun hc126 => ?_)
 replace hz:=Qn hz hc126
 refine Qh <|Qh <|Qi <|Qd (Qe (.pointer (some ⟨bx1,0,none⟩)) hT123_0) <|Qd (Qp Ka hT123_6) <|Qd (Ql (.int .i64 d36.node) Z5 rfl (hS.bvB 0 rfl) (Vg (rr hb35))) ?_
 have ha127:=(rr hb35)
 refine Qd (Zg K4 hT123_6 (hS.bvB 0 rfl) (Rep.len ha127)) <|Qd (Qe (.string x16) hT123_5) ?_
 obtain ⟨r130,hr129,hz⟩:=Qb hz
 refine Qu (Zw (vs:=[.pointer (some ⟨bx1,0,none⟩),.int .i64 d36.node,.agg (sl cs35 (0) 7).toArray,.string x16]) (L:=[.box bx1 cs21 90,.stk v23 9 1 xs24]) (R:=[.box b33 cs35 118,.box b8 cs12 40,.box b6 cx4 43]) (rv:=(fun M' u L' => ∃ k0 u1 x1,u = .int .i64 r130.1∧L'=[.box bx1 k0 90,.stk u1 9 1 x1]∧rep M' k0 r130.2.1∧skr M' u1 x1 r130.2.2∧sl k0 1993 1=[u1])) cb68 (args4 rfl rfl rfl rfl) hS (hS.sel [3,4,0,1,2] (by decide) rfl) (fun hS=>clCome_ok hS hb21 hk26 hp27 ha127 hr129) ?_)
 rintro u129 M129 w128 L129 hx129 ⟨k0_129,u1_129,x1_129,rfl,hL129,f129_0,f129_1,f129_2⟩ hS
 replace hS:=hS _ hL129
 replace hb12:=Rep.mono hx129.1 hb12
 replace hb35:=Rep.mono hx129.1 hb35
 replace hE:=Qc hE hx129
 refine Qd (Qj (.int .i64 r130.1) rfl) ?_
 refine Qf (Qa ?_)
 refine Qh <|Qi <|Qd (Qe (.int .i64 r130.1) rfl) <|Qd (Yp rfl rfl) ?_
 refine Qf (Qa ?_)
 refine Qr rfl (fun hc131 => ?_) (fun hc131 => ?_)
 replace hz:=Qn hz hc131
 refine Qh <|Qi <|Qd (Qe (.int .i64 r130.1) rfl) ?_
 have k132_0:=V3 (Zr.zr:rep M129 (Zr.zc GReply) (Zr.zd:GReply)) (ri r130.1:rep M129 _ _)
 obtain ⟨d133,hd132,hz⟩:=Qb hz
 obtain ⟨cs132,hf132,ha132⟩ : ∃ cs,fillZ (([(0,1),(1,1),(2,1)]:List (Nat × Nat))[·]?) (Zr.zc GReply) [(0,.int .i64 r130.1)]=some cs∧rep M129 cs d133:=⟨_,(Zb (Zr.zr:rep M129 (Zr.zc GReply) (Zr.zd:GReply)) rfl rfl (Rep.len (ri r130.1:rep M129 _ _)) (by decide) Z8),Z9 (x:=({ code:=r130.1,n:=Zr.zd,values:=Zr.zd }:GReply)) k132_0 hd132⟩
 refine Qd (Zx [(0,.int .i64 r130.1)] tb40 (Ys rfl Vf) hf132) ?_
 obtain ⟨d136,hd135,hz⟩:=Qb hz
 refine Qu (Q8 3 3 hS rfl hb12 hT123_4 rfl ha132 rfl rfl (Lf (rr hb12) ha132) hd135 ?_)
 intro cs135 w134 hb135 ha135 hs135 hS
 refine Qf (Qa ?_)
 cases hz
 exact Q4 (Qs (Qs (Jp (j:=3) rfl hT123_4 (by rw [Rep.len hb135];exact Kr) hS rfl ⟨_,M129,_,rfl,hE,(hS.sel (H':=[.box bx1 k0_129 90,.stk u1_129 9 1 x1_129]) [0,1] (by decide) rfl),cs135,k0_129,u1_129,x1_129,rfl,rfl,hb135,f129_0,f129_1,f129_2⟩)))
 replace hz:=Qo hz hc131
 refine Qv (Qa ?_)
 refine Qh <|Qi <|Qd (Qp Yl hT123_6) <|Qd (Ql (.int .i64 d36.id) Z5 rfl (hS.bvB 2 rfl) (Yb (rr hb35))) ?_
 have k137_0:=GReply.w1 (Zr.zr:rep M129 (Zr.zc GReply) (Zr.zd:GReply)) (ri d36.id:rep M129 _ _)
 obtain ⟨d138,hd137,hz⟩:=Qb hz
 obtain ⟨cs137,hf137,ha137⟩ : ∃ cs,fillZ (([(0,1),(1,1),(2,1)]:List (Nat × Nat))[·]?) (Zr.zc GReply) [(1,.int .i64 d36.id)]=some cs∧rep M129 cs d138:=⟨_,(Zb (Zr.zr:rep M129 (Zr.zc GReply) (Zr.zd:GReply)) rfl rfl (Rep.len (ri d36.id:rep M129 _ _)) (by decide) Z8),Z9 (x:=({ code:=Zr.zd,n:=d36.id,values:=Zr.zd }:GReply)) k137_0 hd137⟩
 refine Qd (Zx [(1,.int .i64 d36.id)] tb40 (Ys rfl Vf) hf137) ?_
 obtain ⟨d141,hd140,hz⟩:=Qb hz
 refine Qu (Q8 3 3 hS rfl hb12 hT123_4 rfl ha137 rfl rfl (Lf (rr hb12) ha137) hd140 ?_)
 intro cs140 w139 hb140 ha140 hs140 hS
 refine Qf (Qa ?_)
 cases hz
 exact Q4 (Qs (Jp (j:=3) rfl hT123_4 (by rw [Rep.len hb140];exact Kr) hS rfl ⟨_,M129,_,rfl,hE,(hS.sel (H':=[.box bx1 k0_129 90,.stk u1_129 9 1 x1_129]) [0,1] (by decide) rfl),cs140,k0_129,u1_129,x1_129,rfl,rfl,hb140,f129_0,f129_1,f129_2⟩))
 replace hz:=Qo hz hc126
 refine Qv (Qa ?_)
 exact ⟨M122,cs12,d13,cs21,d22,v23,xs24,l25,hF120,hS,hb12,hb21,hk26,hp27,hT123_0,hT123_4,hT123_6,hz⟩
 rintro T45 w43 ⟨M44,cs46,d47,cs48,d49,v50,xs51,l52,hx55,hS,hb46,hb48,hk53,hp54,hT45_0,hT45_4,hT45_6,hz⟩
 replace hb35:=Rep.mono hx55.1 hb35
 replace hE:=Qc hE hx55
 rw [clFrame_j3] at hz
 refine Qz (fun T' w' => ∃ M57 b59 cs59 d60 v62 l61 y63,Mm.ext w.heap.size (lentX [.box bx1 cx1 90,.stk ux1_6 9 1 xsx1_6]) M44 M57∧St w (lentX [.box bx1 cx1 90,.stk ux1_6 9 1 xsx1_6]) M57 [.box b59 cs59 49,.box b33 cs35 118,.box b8 cs46 40,.box b6 cx4 43,.box bx1 cs48 90,.stk v50 9 1 xs51] w'∧rep M57 cs59 d60∧w.heap.size≤b59∧repL M57 v62 l61∧T' 9 = .pointer (some ⟨b59,0,none⟩)∧T' 0 = .pointer (some ⟨bx1,0,none⟩)∧T' 4 = .pointer (some ⟨b8,0,none⟩)∧T' 6 = .pointer (some ⟨b33,0,none⟩)∧T' 10=v62∧T' 11 = .int .i64 y63∧clFrame_j4 fu d36 d49 l52 d60 l61 y63=some r) ?_ ?_
 have hF96:=Qg w.heap.size (lentX [.box bx1 cx1 90,.stk ux1_6 9 1 xsx1_6]) M44
 refine Yt [.box b33 cs35 118,.box bx1 cs48 90] [] Z6 hS fun w97 hS hG98 hR99=>wy 0 rfl (Qe (.pointer (some ⟨bx1,0,none⟩)) hT45_0) (fun _=>hR99) <|wy 1 rfl (Qp Yl hT45_6) (fun _=>hR99) <|Y6 2 rfl (Ql (.int .i64 d36.id) Z5 rfl (Ym 0 rfl) (Yb (rr hb35))) hR99 <|wy 3 rfl (Q6 rfl) (fun _=>hR99) <|wy 4 rfl (Qp fa90_4 rfl) (fun _=>hR99) ?_
 obtain ⟨u100,hx101,hz⟩:=Qb hz
 obtain ⟨hx101a,hx101b⟩:=Qt hx101
 refine wy 5 rfl (Za ia88 rfl rfl hx101a hx101b) (fun _=>hR99) ?_
 obtain ⟨x102,hx103,hz⟩:=Qb hz
 have ha104:=(vp (k:=24) rfl rfl (Vd (rr hb48)) hx103)
 refine Y6 6 rfl (Zg Vb rfl (Ym 1 rfl) (Rep.len ha104)) hR99 <|wy 7 rfl (Qp Yl hT45_6) (fun _=>hR99) <|Y6 8 rfl (Ql (.int .i64 d36.id) Z5 rfl (Ym 0 rfl) (Yb (rr hb35))) hR99 ?_
 have ha105:=(rr hb35)
 refine Y6 9 rfl (Zg K4 hT45_6 (Ym 0 rfl) (Rep.len ha105)) hR99 ?_
 obtain ⟨r108,hr107,hz⟩:=Qb hz
 obtain ⟨d113,hd112,hz⟩:=Qb hz
 refine WB_two (i:=10) (j:=15) (by kernel_rfl) rfl rfl (Y1 (vs:=[.agg (sl cs48 (0+1224+Int.toNat d36.id*24) 24).toArray,.int .i64 d36.id,.agg (sl cs35 (0) 7).toArray]) (rv:=(fun M' u => ∃ c0 v1,u = .tuple #[.agg c0.toArray,v1,.int .i64 r108.2.2]∧rep M' c0 r108.1∧repL M' v1 r108.2.1)) cb69 (Jj rfl rfl rfl) hS (postTake_ok hS.agree ha104 ha105 hr107) ?_) (Zf tz49 hS ?_)
 intro u107 M107 w106 hx107 hu107 hS
 obtain ⟨c107_0,v107_1,hq107,f107_0,f107_1⟩:=hu107
 subst hq107
 replace hF96:=Qc hF96 hx107
 replace hG98:=Qc hG98 hx107
 refine Yr hS hG98 fun hR114=>wy 11 rfl (Qe (.tuple #[.agg c107_0.toArray,v107_1,.int .i64 r108.2.2]) rfl) (fun _=>hR114) <|wy 12 rfl (Zc (v := .agg c107_0.toArray) rfl rfl) (fun _=>hR114) <|wy 13 rfl (Zc (v:=v107_1) rfl rfl) (fun _=>hR114) <|wy 14 rfl (Zc (v := .int .i64 r108.2.2) rfl rfl) (fun _=>hR114) ?_
 refine w1 15 rfl (Zf tz49 hS ?_)
 intro b110 w109 hb110 hS
 have zb110:rep M107 (Zr.zc GCase) (Zr.zd:GCase):=Zr.zr
 refine Yr hS hG98 fun hR115 => ?_
 refine w1 16 rfl (Q8 0 24 hS rfl zb110 rfl rfl f107_0 rfl rfl (Lf (rr zb110) f107_0) hd112 ?_)
 intro cs112 w111 hb112 ha112 hs112 hS
 refine Yr hS hG98 fun hR116=>wy 17 rfl (Qj (v107_1) rfl) (fun _=>hR116) <|wy 18 rfl (Qj (.int .i64 r108.2.2) rfl) (fun _=>hR116) ?_
 refine wd (Qa ?_)
 exact ⟨M107,b110,cs112,d113,v107_1,r108.2.1,r108.2.2,hF96,hS,hb112,hb110,f107_1,rfl,hT45_0,hT45_4,hT45_6,rfl,rfl,hz⟩
 intro b110 w109 hb110 hS
 have zb110:rep M44 (Zr.zc GCase) (Zr.zd:GCase):=Zr.zr
 refine Yr hS hG98 fun hR117 => ?_
 refine w1 10 rfl (Y1 (vs:=[.agg (sl cs48 (0+1224+Int.toNat d36.id*24) 24).toArray,.int .i64 d36.id,.agg (sl cs35 (0) 7).toArray]) (rv:=(fun M' u => ∃ c0 v1,u = .tuple #[.agg c0.toArray,v1,.int .i64 r108.2.2]∧rep M' c0 r108.1∧repL M' v1 r108.2.1)) cb69 (Jj rfl rfl rfl) hS (postTake_ok hS.agree ha104 ha105 hr107) ?_)
 intro u107 M107 w106 hx107 hu107 hS
 obtain ⟨c107_0,v107_1,hq107,f107_0,f107_1⟩:=hu107
 subst hq107
 replace zb110:=Rep.mono hx107.1 zb110
 replace hF96:=Qc hF96 hx107
 replace hG98:=Qc hG98 hx107
 refine Yr hS hG98 fun hR118=>wy 11 rfl (Qe (.tuple #[.agg c107_0.toArray,v107_1,.int .i64 r108.2.2]) rfl) (fun _=>hR118) <|wy 12 rfl (Zc (v := .agg c107_0.toArray) rfl rfl) (fun _=>hR118) <|wy 13 rfl (Zc (v:=v107_1) rfl rfl) (fun _=>hR118) <|wy 14 rfl (Zc (v := .int .i64 r108.2.2) rfl rfl) (fun _=>hR118) ?_
 refine w1 16 rfl (Q8 0 24 hS rfl zb110 rfl rfl f107_0 rfl rfl (Lf (rr zb110) f107_0) hd112 ?_)
 intro cs112 w111 hb112 ha112 hs112 hS
 refine Yr hS hG98 fun hR119=>wy 17 rfl (Qj (v107_1) rfl) (fun _=>hR119) <|wy 18 rfl (Qj (.int .i64 r108.2.2) rfl) (fun _=>hR119) ?_
 refine wd (Qa ?_)
 exact ⟨M107,b110,cs112,d113,v107_1,r108.2.1,r108.2.2,hF96,hS,hb112,hb110,f107_1,rfl,hT45_0,hT45_4,hT45_6,rfl,rfl,hz⟩
 rintro T58 w56 ⟨M57,b59,cs59,d60,v62,l61,y63,hx64,hS,hb59,hs59,hv62,hT58_9,hT58_0,hT58_4,hT58_6,hT58_10,hT58_11,hz⟩
 replace hb35:=Rep.mono hx64.1 hb35
 replace hb46:=Rep.mono hx64.1 hb46
 replace hb48:=Rep.mono hx64.1 hb48
 replace hk53:=Zm hx64.1 hk53
 replace hE:=Qc hE hx64
 rw [clFrame_j4] at hz
 refine Qh <|Qh <|Qi <|Qd (Qe (.int .i64 y63) hT58_11) <|Qd (Yp rfl rfl) ?_
 refine Qf (Qa ?_)
 refine Qr rfl (fun hc65 => ?_) (fun hc65 => ?_)
 replace hz:=Qn hz hc65
 refine Qh <|Qi <|Qd (Qe (.int .i64 y63) hT58_11) ?_
 have k66_0:=V3 (Zr.zr:rep M57 (Zr.zc GReply) (Zr.zd:GReply)) (ri y63:rep M57 _ _)
 obtain ⟨d67,hd66,hz⟩:=Qb hz
 obtain ⟨cs66,hf66,ha66⟩ : ∃ cs,fillZ (([(0,1),(1,1),(2,1)]:List (Nat × Nat))[·]?) (Zr.zc GReply) [(0,.int .i64 y63)]=some cs∧rep M57 cs d67:=⟨_,(Zb (Zr.zr:rep M57 (Zr.zc GReply) (Zr.zd:GReply)) rfl rfl (Rep.len (ri y63:rep M57 _ _)) (by decide) Z8),Z9 (x:=({ code:=y63,n:=Zr.zd,values:=Zr.zd }:GReply)) k66_0 hd66⟩
 refine Qd (Zx [(0,.int .i64 y63)] tb40 (Ys rfl Vf) hf66) ?_
 obtain ⟨d70,hd69,hz⟩:=Qb hz
 refine Qu (Q8 2 3 hS rfl hb46 hT58_4 rfl ha66 rfl rfl (Lf (rr hb46) ha66) hd69 ?_)
 intro cs69 w68 hb69 ha69 hs69 hS
 refine Qf (Qa ?_)
 cases hz
 exact Q4 (Qs (Jp (j:=2) rfl hT58_4 (by rw [Rep.len hb69];exact Kr) hS rfl ⟨_,M57,_,rfl,hE,(hS.sel (H':=[.box bx1 cs48 90,.stk v50 9 1 xs51]) [4,5] (by decide) rfl),cs69,cs48,v50,xs51,rfl,rfl,hb69,hb48,hk53,hp54⟩))
 replace hz:=Qo hz hc65
 refine Qv (Qa ?_)
 refine Qh <|Yt [.box b59 cs59 49,.box b33 cs35 118] [] Z6 hS fun w71 hS hG72 hR73=>wy 0 rfl (Qe (.pointer (some ⟨bx1,0,none⟩)) hT58_0) (fun _=>hR73) <|wy 1 rfl (Qp Yl hT58_6) (fun _=>hR73) <|Y6 2 rfl (Ql (.int .i64 d36.id) Z5 rfl (Ym 1 rfl) (Yb (rr hb35))) hR73 ?_
 have ha74:=(rr hb59)
 refine Y6 3 rfl (Zg Vb hT58_9 (Ym 0 rfl) (Rep.len ha74)) hR73 <|wy 4 rfl (Q6 rfl) (fun _=>hR73) <|wy 5 rfl (Qp fa90_4 rfl) (fun _=>hR73) ?_
 obtain ⟨u75,hx76,hz⟩:=Qb hz
 obtain ⟨hx76a,hx76b⟩:=Qt hx76
 refine wy 6 rfl (Za ia88 rfl rfl hx76a hx76b) (fun _=>hR73) ?_
 obtain ⟨x79,hx80,hz⟩:=Qb hz
 obtain ⟨a81,hx82,hz⟩:=Qb hz
 obtain ⟨d83,hd78,hz⟩:=Qb hz
 have hq85:=(Zn hx80)
 refine w1 7 rfl (Q8 4 24 hS rfl hb48 rfl rfl ha74 rfl rfl (GCluster.u4 (rr hb48) (vu (k:=24) rfl rfl (Vd (rr hb48)) (Lf (vp (k:=24) rfl rfl (Vd (rr hb48)) hx80) ha74) hx82)) hd78 ?_)
 intro cs78 w77 hb78 ha78 hs78 hS
 have hp84:=(ha78 (by omega)).trans hp54
 refine Yr hS hG72 fun hR86 => ?_
 refine wd (Qa ?_)
 refine Qh <|Qi <|Qd (Qe (.pointer (some ⟨bx1,0,none⟩)) hT58_0) <|Qd (Qe (v62) hT58_10) ?_
 obtain ⟨r89,hr88,hz⟩:=Qb hz
 refine Qu (Zw (vs:=[.pointer (some ⟨bx1,0,none⟩),v62]) (L:=[.box bx1 cs78 90,.stk v50 9 1 xs51]) (R:=[.box b59 cs59 49,.box b33 cs35 118,.box b8 cs46 40,.box b6 cx4 43]) (rv:=(fun M' u L' => ∃ k0 u1 x1,u = .tuple #[]∧L'=[.box bx1 k0 90,.stk u1 9 1 x1]∧rep M' k0 r89.1∧skr M' u1 x1 r89.2∧sl k0 1993 1=[u1])) cb49 (Ya rfl rfl) hS (hS.sel [4,5,0,1,2,3] (by decide) rfl) (fun hS=>clSend_ok hS hb78 hk53 hp84 hv62 hr88) ?_)
 rintro u88 M88 w87 L88 hx88 ⟨k0_88,u1_88,x1_88,rfl,hL88,f88_0,f88_1,f88_2⟩ hS
 replace hS:=hS _ hL88
 replace hb35:=Rep.mono hx88.1 hb35
 refine Qf (Qa ?_)
 refine Qh <|Qi <|Qd (Qe (.pointer (some ⟨bx1,0,none⟩)) hT58_0) <|Qd (Qp Yl hT58_6) <|Qd (Ql (.int .i64 d36.id) Z5 rfl (hS.bvB 3 rfl) (Yb (rr hb35))) ?_
 obtain ⟨r92,hr91,hz⟩:=Qb hz
 refine Qu (Zw (vs:=[.pointer (some ⟨bx1,0,none⟩),.int .i64 d36.id]) (L:=[.box bx1 k0_88 90]) (R:=[.stk u1_88 9 1 x1_88,.box b59 cs59 49,.box b33 cs35 118,.box b8 cs46 40,.box b6 cx4 43]) (rv:=(fun M' u L' => ∃ c0,u = .agg c0.toArray∧L'=[.box bx1 k0_88 90]∧rep M' c0 r92)) cb51 (Ya rfl rfl) hS (hS.sel [0,1,2,3,4,5] (by decide) rfl) (fun hS=>clTold_ok hS f88_0 hr91) ?_)
 rintro u91 M91 w90 L91 hx91 ⟨c0_91,rfl,hL91,f91_0⟩ hS
 replace hS:=hS _ hL91
 replace hb46:=Rep.mono (hx88.1.trans hx91.1) hb46
 replace f88_0:=Rep.mono hx91.1 f88_0
 replace f88_1:=Zm hx91.1 f88_1
 replace hE:=Qc hE (hx88.trans hx91)
 obtain ⟨d95,hd94,hz⟩:=Qb hz
 refine Qu (Q8 4 3 hS rfl hb46 hT58_4 rfl f91_0 rfl rfl (Lf (rr hb46) f91_0) hd94 ?_)
 intro cs94 w93 hb94 ha94 hs94 hS
 refine Qf (Qa ?_)
 cases hz
 exact Q4 (Jp (j:=4) rfl hT58_4 (by rw [Rep.len hb94];exact Kr) hS rfl ⟨_,M91,_,rfl,hE,(hS.sel (H':=[.box bx1 k0_88 90,.stk u1_88 9 1 x1_88]) [0,1] (by decide) rfl),cs94,k0_88,u1_88,x1_88,rfl,rfl,hb94,f88_0,f88_1,f88_2⟩)
def clPower_j1 (d13:GReply) (d15:GCluster) (l18:List ByteArray):Option (GReply × GCluster × (List ByteArray)) :=
 (some ({ code:=Zr.zd,n:=Zr.zd,values:=Zr.zd }:GReply)).bind fun d23 =>
 (some d23).bind fun d26 =>
 some (d26,d15,l18)
def clPower_j2 (fu:Nat) (x1:GCluster) (l3:List ByteArray) (x4:GAct) (c31:Bool):Option (GReply × GCluster × (List ByteArray)) :=
 (bif c31 then
 (some ({ code:=2,n:=Zr.zd,values:=Zr.zd }:GReply)).bind fun d35 =>
 (some d35).bind fun d38 =>
 some (d38,x1,l3)
 else
 (inR x4.n 6).bind fun _ =>
 (idxV x1.down x4.n).bind fun x41 =>
 (bif !(x41==(x4.kind==8)) then
 (some ({ code:=6,n:=Zr.zd,values:=Zr.zd }:GReply)).bind fun d46 =>
 (some d46).bind fun d49 =>
 some (d49,x1,l3)
 else
 (bif x4.kind==7 then
 (inR x4.n 6).bind fun _ =>
 (idxV x1.tear x4.n).bind fun x58 =>
 (setV x1.tear x4.n (IntKind.wrap .i64 (x4.m+1))).bind fun a60 =>
 (some ({ x1 with tear:=a60 }:GCluster)).bind fun d62 =>
 clPower_j1 (Zr.zd:GReply) d62 l3
 else
 (bif x4.kind==6 then
 (some ({ entries:=Zr.zd,order:=Zr.zd,values:=Zr.zd }:GNode)).bind fun d71 =>
 (inR x4.n 6).bind fun _ =>
 (idxV x1.nodes x4.n).bind fun x76 =>
 (setV x1.nodes x4.n d71).bind fun a78 =>
 (some ({ x1 with nodes:=a78 }:GCluster)).bind fun d80 =>
 (inR x4.n 6).bind fun _ =>
 (idxV d80.down x4.n).bind fun x88 =>
 (setV d80.down x4.n true).bind fun a90 =>
 (some ({ d80 with down:=a90 }:GCluster)).bind fun d92 =>
 (inR x4.n 6).bind fun _ =>
 (idxV d92.tear x4.n).bind fun x100 =>
 (setV d92.tear x4.n 0).bind fun a102 =>
 (some ({ d92 with tear:=a102 }:GCluster)).bind fun d104 =>
 clPower_j1 (Zr.zd:GReply) d104 l3
 else
 (inR x4.n 6).bind fun _ =>
 (idxV x1.logs x4.n).bind fun x110 =>
 (bkReadD fu x110).bind fun r114 =>
 (inR x4.n 6).bind fun _ =>
 (idxV x1.logs x4.n).bind fun x120 =>
 (cutB x120 none (some r114.2)).bind fun s123 =>
 (inR x4.n 6).bind fun _ =>
 (chkS s123).bind fun _ =>
 (idxV x1.logs x4.n).bind fun x129 =>
 (setV x1.logs x4.n s123).bind fun a131 =>
 (some ({ x1 with logs:=a131 }:GCluster)).bind fun d133 =>
 (nodeReplayD fu x4.n r114.1).bind fun r141 =>
 (inR x4.n 6).bind fun _ =>
 (idxV d133.nodes x4.n).bind fun x147 =>
 (setV d133.nodes x4.n r141.1).bind fun a149 =>
 (some ({ d133 with nodes:=a149 }:GCluster)).bind fun d151 =>
 (inR x4.n 6).bind fun _ =>
 (idxV d151.down x4.n).bind fun x159 =>
 (setV d151.down x4.n false).bind fun a161 =>
 (some ({ d151 with down:=a161 }:GCluster)).bind fun d163 =>
 clPower_j1 (Zr.zd:GReply) d163 l3))))
def clPowerD (fu:Nat) (x1:GCluster) (l3:List ByteArray) (x4:GAct):Option (GReply × GCluster × (List ByteArray)) :=
 (bif decide (x4.n<0) then
 clPower_j2 fu x1 l3 x4 true
 else
 (bif decide (x4.n≥6) then
 clPower_j2 fu x1 l3 x4 true
 else
 (bif x4.kind==7 then
 (bif decide (x4.m<0) then
 clPower_j2 fu x1 l3 x4 true
 else
 clPower_j2 fu x1 l3 x4 (decide (x4.m>400)))
 else
 clPower_j2 fu x1 l3 x4 false)))
set_option maxRecDepth 100000 in
set_option maxHeartbeats 4000000 in
theorem clPower_ok {M:Mm} {w:World} {bx1:Nat} {cx1:List Value} {ux1_6:Value} {xsx1_6:List Value} {cx4:List Value} {x1:GCluster} {l3:List ByteArray} {x4:GAct} {fu:Nat} {r:GReply × GCluster × (List ByteArray)} (hS:St w (lentX [.box bx1 cx1 90,.stk ux1_6 9 1 xsx1_6]) M [.box bx1 cx1 90,.stk ux1_6 9 1 xsx1_6] w) (hcx1:rep M cx1 x1) (hkx1_6:skr M ux1_6 xsx1_6 l3) (hpx1_6:sl cx1 1993 1=[ux1_6]) (hcx4:rep M cx4 x4) (hz:clPowerD fu x1 l3 x4=some r) :
    Calls Try.prog 52 #[.pointer (some ⟨bx1,0,none⟩),.agg cx4.toArray] w (GivesL M w [.box bx1 cx1 90,.stk ux1_6 9 1 xsx1_6] (fun M' u L' => ∃ c0 k0 u1 x1,u = .agg c0.toArray∧L'=[.box bx1 k0 90,.stk u1 9 1 x1]∧rep M' c0 r.1∧rep M' k0 r.2.1∧skr M' u1 x1 r.2.2∧sl k0 1993 1=[u1])):=by
 refine Zh Try.func52 rfl 117 rfl rfl (by kernel_rfl) fun T hT => ?_
 have hT_0:T 0 = .pointer (some ⟨bx1,0,none⟩):=hT 0
 have hT_1:T 1 = .agg cx4.toArray:=hT 1
 clear hT
 have hE:=Qg w.heap.size (lentX [.box bx1 cx1 90,.stk ux1_6 9 1 xsx1_6]) M
 rw [clPowerD] at hz
 refine Qh <|Qi ?_
 refine Qu (Yo (v := .agg cx4.toArray) (cs:=cx4) hT_1 rfl hS ?_)
 intro b6 w5 hb6 hS
 refine Qu (Zf tz40 hS ?_)
 intro b8 w7 hb8 hS
 have zb8:rep M (Zr.zc GReply) (Zr.zd:GReply):=Zr.zr
 refine Qf (Qa ?_)
 refine Qh <|Qi <|Qd (Qp Ks rfl) <|Qd (Ql (.int .i64 x4.n) Z5 rfl (hS.bvB 1 rfl) (V5 (rr hcx4))) <|Qd (Qj (.int .i64 x4.n) rfl) ?_
 refine Qf (Qa ?_)
 refine Qz (fun T' w' => ∃ M10 cs12 d13 cs14 d15 v16 xs17 l18,Mm.ext w.heap.size (lentX [.box bx1 cx1 90,.stk ux1_6 9 1 xsx1_6]) M M10∧St w (lentX [.box bx1 cx1 90,.stk ux1_6 9 1 xsx1_6]) M10 [.box b8 cs12 40,.box b6 cx4 43,.box bx1 cs14 90,.stk v16 9 1 xs17] w'∧rep M10 cs12 d13∧rep M10 cs14 d15∧skr M10 v16 xs17 l18∧sl cs14 (0+1993) 1=[v16]∧T' 4 = .pointer (some ⟨b8,0,none⟩)∧clPower_j1 d13 d15 l18=some r) ?_ ?_
 have hF27:=Qg w.heap.size (lentX [.box bx1 cx1 90,.stk ux1_6 9 1 xsx1_6]) M
 refine Qy ?_
 refine Qz (fun T' w' => ∃ M29 c31,Mm.ext w.heap.size (lentX [.box bx1 cx1 90,.stk ux1_6 9 1 xsx1_6]) M M29∧St w (lentX [.box bx1 cx1 90,.stk ux1_6 9 1 xsx1_6]) M29 [.box b8 (Zr.zc GReply) 40,.box b6 cx4 43,.box bx1 cx1 90,.stk ux1_6 9 1 xsx1_6] w'∧T' 0 = .pointer (some ⟨bx1,0,none⟩)∧T' 3 = .pointer (some ⟨b6,0,none⟩)∧T' 4 = .pointer (some ⟨b8,0,none⟩)∧T' 5 = .int .i64 x4.n∧T' 49 = .bool c31∧clPower_j2 fu x1 l3 x4 c31=some r) ?_ ?_
 have hF166:=Qg w.heap.size (lentX [.box bx1 cx1 90,.stk ux1_6 9 1 xsx1_6]) M
 refine Qi <|Qd (Qe (.int .i64 x4.n) rfl) <|Qd (Zq rfl rfl) <|Qd (Qe (.bool (decide (x4.n<0))) rfl) ?_
 rcases ic hz with ⟨hc167,hz⟩ | ⟨hc167,hz⟩<;>rw [hc167]
 refine Q2 19 rfl ?_
 refine Qf (Qa ?_)
 exact ⟨M,true,hF166,hS,hT_0,rfl,rfl,rfl,rfl,hz⟩
 refine Qk rfl rfl (Qe (.int .i64 x4.n) rfl) <|Qk rfl rfl (Va rfl rfl) <|Q2 2 rfl ?_
 rcases ic hz with ⟨hc168,hz⟩ | ⟨hc168,hz⟩<;>rw [hc168]
 refine Q2 15 rfl ?_
 refine Qf (Qa ?_)
 exact ⟨M,true,hF166,hS,hT_0,rfl,rfl,rfl,rfl,hz⟩
 refine Qk rfl rfl (Qp Ja rfl) <|Qk rfl rfl (Ql (.int .i64 x4.kind) Z5 rfl (hS.bvB 1 rfl) (Ko (rr hcx4))) <|Qk rfl rfl (Yc rfl rfl) <|Qk rfl rfl (Qe (.bool (x4.kind==7)) rfl) ?_
 rcases ic hz with ⟨hc169,hz⟩ | ⟨hc169,hz⟩<;>rw [hc169]
 refine Qk rfl rfl (Qp fa43_2 rfl) <|Qk rfl rfl (Ql (.int .i64 x4.m) Z5 rfl (hS.bvB 1 rfl) (GAct.p2 (rr hcx4))) <|Qk rfl rfl (Zq rfl rfl) <|Qk rfl rfl (Qe (.bool (decide (x4.m<0))) rfl) ?_
 rcases ic hz with ⟨hc170,hz⟩ | ⟨hc170,hz⟩<;>rw [hc170]
 refine Q2 7 rfl ?_
 refine Qf (Qa ?_)
 exact ⟨M,true,hF166,hS,hT_0,rfl,rfl,rfl,rfl,hz⟩
 refine Qk rfl rfl (Qp fa43_2 rfl) <|Qk rfl rfl (Ql (.int .i64 x4.m) Z5 rfl (hS.bvB 1 rfl) (GAct.p2 (rr hcx4))) <|Qk rfl rfl (Yu rfl rfl) <|Q2 4 rfl ?_
 refine Qf (Qa ?_)
 exact ⟨M,(decide (x4.m>400)),hF166,hS,hT_0,rfl,rfl,rfl,rfl,hz⟩
 refine Q2 11 rfl ?_
 refine Qf (Qa ?_)
 exact ⟨M,false,hF166,hS,hT_0,rfl,rfl,rfl,rfl,hz⟩
 rintro T30 w28 ⟨M29,c31,hx32,hS,hT30_0,hT30_3,hT30_4,hT30_5,hT30_49,hz⟩
 replace hcx1:=Rep.mono hx32.1 hcx1
 replace hkx1_6:=Zm hx32.1 hkx1_6
 replace hcx4:=Rep.mono hx32.1 hcx4
 replace zb8:=Rep.mono hx32.1 zb8
 replace hE:=Qc hE hx32
 replace hF27:=Qc hF27 hx32
 rw [clPower_j2] at hz
 refine Qr hT30_49 (fun hc33 => ?_) (fun hc33 => ?_)
 replace hz:=Qn hz hc33
 refine Qh <|Qi ?_
 have k34_0:=V3 (Zr.zr:rep M29 (Zr.zc GReply) (Zr.zd:GReply)) (ri 2:rep M29 _ _)
 obtain ⟨d35,hd34,hz⟩:=Qb hz
 obtain ⟨cs34,hf34,ha34⟩ : ∃ cs,fillZ (([(0,1),(1,1),(2,1)]:List (Nat × Nat))[·]?) (Zr.zc GReply) [(0,.int .i64 2)]=some cs∧rep M29 cs d35:=⟨_,(Zb (Zr.zr:rep M29 (Zr.zc GReply) (Zr.zd:GReply)) rfl rfl (Rep.len (ri 2:rep M29 _ _)) (by decide) Z8),Z9 (x:=({ code:=2,n:=Zr.zd,values:=Zr.zd }:GReply)) k34_0 hd34⟩
 refine Qd (Zx [(0,.int .i64 2)] tb40 (Ys rfl Vf) hf34) ?_
 obtain ⟨d38,hd37,hz⟩:=Qb hz
 refine Qu (Q8 0 3 hS rfl zb8 hT30_4 rfl ha34 rfl rfl (Lf (rr zb8) ha34) hd37 ?_)
 intro cs37 w36 hb37 ha37 hs37 hS
 refine Qf (Qa ?_)
 cases hz
 exact Q4 (Zi (Qs (Jp (j:=0) rfl hT30_4 (by rw [Rep.len hb37];exact Kr) hS rfl ⟨_,M29,_,rfl,hE,(hS.sel (H':=[.box bx1 cx1 90,.stk ux1_6 9 1 xsx1_6]) [2,3] (by decide) rfl),cs37,cx1,ux1_6,xsx1_6,rfl,rfl,hb37,hcx1,hkx1_6,hpx1_6⟩)))
 replace hz:=Qo hz hc33
 refine Qh <|W_drawq Z6 (by kernel_rfl) hS <|Yn (Qe (.pointer (some ⟨bx1,0,none⟩)) hT30_0) <|Yn (Qe (.int .i64 x4.n) hT30_5) <|Yn (Q6 rfl) <|Yn (Qp fa90_2 rfl) ?_
 obtain ⟨u39,hx40,hz⟩:=Qb hz
 obtain ⟨hx40a,hx40b⟩:=Qt hx40
 refine Yn (Za Jq rfl rfl hx40a hx40b) ?_
 obtain ⟨x41,hx42,hz⟩:=Qb hz
 refine Yn (Ql (.bool x41) Jk rfl (bvBS (j:=2) rfl) (vp (k:=1) rfl rfl (Y4 (rr hcx1)) hx42)) <|Yn (Qp Ja hT30_3) <|Yn (Ql (.int .i64 x4.kind) Z5 rfl (bvBS (j:=1) rfl) (Ko (rr hcx4))) <|Yn (Yc rfl rfl) <|Yn (Y_neB rfl rfl K3) <|Yn (Qj (.bool (!(x41==(x4.kind==8)))) rfl) <|WQ_nil ?_
 intro w43 hS
 refine (Qa ?_)
 refine Qr rfl (fun hc44 => ?_) (fun hc44 => ?_)
 replace hz:=Qn hz hc44
 refine Qh <|Qi ?_
 have k45_0:=V3 (Zr.zr:rep M29 (Zr.zc GReply) (Zr.zd:GReply)) (ri 6:rep M29 _ _)
 obtain ⟨d46,hd45,hz⟩:=Qb hz
 obtain ⟨cs45,hf45,ha45⟩ : ∃ cs,fillZ (([(0,1),(1,1),(2,1)]:List (Nat × Nat))[·]?) (Zr.zc GReply) [(0,.int .i64 6)]=some cs∧rep M29 cs d46:=⟨_,(Zb (Zr.zr:rep M29 (Zr.zc GReply) (Zr.zd:GReply)) rfl rfl (Rep.len (ri 6:rep M29 _ _)) (by decide) Z8),Z9 (x:=({ code:=6,n:=Zr.zd,values:=Zr.zd }:GReply)) k45_0 hd45⟩
 refine Qd (Zx [(0,.int .i64 6)] tb40 (Ys rfl Vf) hf45) ?_
 obtain ⟨d49,hd48,hz⟩:=Qb hz
 refine Qu (Q8 0 3 hS rfl zb8 hT30_4 rfl ha45 rfl rfl (Lf (rr zb8) ha45) hd48 ?_)
 intro cs48 w47 hb48 ha48 hs48 hS
 refine Qf (Qa ?_)
 cases hz
 exact Q4 (Zi (Qs (Jp (j:=0) rfl hT30_4 (by rw [Rep.len hb48];exact Kr) hS rfl ⟨_,M29,_,rfl,hE,(hS.sel (H':=[.box bx1 cx1 90,.stk ux1_6 9 1 xsx1_6]) [2,3] (by decide) rfl),cs48,cx1,ux1_6,xsx1_6,rfl,rfl,hb48,hcx1,hkx1_6,hpx1_6⟩)))
 replace hz:=Qo hz hc44
 refine Qh <|Qi <|Qd (Qp Ja hT30_3) <|Qd (Ql (.int .i64 x4.kind) Z5 rfl (hS.bvB 1 rfl) (Ko (rr hcx4))) <|Qd (Yc rfl rfl) <|Qd (Qj (.bool (x4.kind==7)) rfl) ?_
 refine Qf (Qa ?_)
 refine Qr rfl (fun hc50 => ?_) (fun hc50 => ?_)
 replace hz:=Qn hz hc50
 refine Yt [.box b6 cx4 43] [] Z6 hS fun w51 hS hG52 hR53=>wy 0 rfl (Qe (.pointer (some ⟨bx1,0,none⟩)) hT30_0) (fun _=>hR53) <|wy 1 rfl (Qe (.int .i64 x4.n) hT30_5) (fun _=>hR53) <|wy 2 rfl (Qp fa43_2 hT30_3) (fun _=>hR53) <|Y6 3 rfl (Ql (.int .i64 x4.m) Z5 rfl (Ym 0 rfl) (GAct.p2 (rr hcx4))) hR53 <|wy 4 rfl (Zz rfl rfl) (fun _=>hR53) <|wy 5 rfl (Q6 rfl) (fun _=>hR53) <|wy 6 rfl (Qp fa90_3 rfl) (fun _=>hR53) ?_
 obtain ⟨u54,hx55,hz⟩:=Qb hz
 obtain ⟨hx55a,hx55b⟩:=Qt hx55
 refine wy 7 rfl (Za ia55 rfl rfl hx55a hx55b) (fun _=>hR53) ?_
 obtain ⟨x58,hx59,hz⟩:=Qb hz
 obtain ⟨a60,hx61,hz⟩:=Qb hz
 obtain ⟨d62,hd57,hz⟩:=Qb hz
 have hq64:=(Zn hx59)
 refine w1 8 rfl (Q8 2 1 hS rfl hcx1 rfl rfl (ri (IntKind.wrap .i64 (x4.m+1)):rep M29 _ _) rfl rfl (GCluster.u3 (rr hcx1) (vu (k:=1) rfl rfl (Ve (rr hcx1)) (Lf (vp (k:=1) rfl rfl (Ve (rr hcx1)) hx59) (ri (IntKind.wrap .i64 (x4.m+1)):rep M29 _ _)) hx61)) hd57 ?_)
 intro cs57 w56 hb57 ha57 hs57 hS
 have hp63:=(ha57 (by omega)).trans hpx1_6
 refine Yr hS hG52 fun hR65 => ?_
 refine wd (Q7 ?_)
 refine (Qa ?_)
 exact ⟨M29,(Zr.zc GReply),(Zr.zd:GReply),cs57,d62,ux1_6,xsx1_6,l3,hF27,hS,zb8,hb57,hkx1_6,hp63,hT30_4,hz⟩
 replace hz:=Qo hz hc50
 refine Qh <|Qi <|Qd (Qp Ja hT30_3) <|Qd (Ql (.int .i64 x4.kind) Z5 rfl (hS.bvB 1 rfl) (Ko (rr hcx4))) <|Qd (Yc rfl rfl) <|Qd (Qj (.bool (x4.kind==6)) rfl) ?_
 refine Qf (Qa ?_)
 refine Qr rfl (fun hc66 => ?_) (fun hc66 => ?_)
 replace hz:=Qn hz hc66
 refine Yt [] [] Z6 hS fun w67 hS hG68 hR69=>wy 0 rfl (Qe (.pointer (some ⟨bx1,0,none⟩)) hT30_0) (fun _=>hR69) <|wy 1 rfl (Qe (.int .i64 x4.n) hT30_5) (fun _=>hR69) <|wy 2 rfl (Qe (.pointer (some ⟨bx1,0,none⟩)) hT30_0) (fun _=>hR69) <|wy 3 rfl (Qe (.int .i64 x4.n) hT30_5) (fun _=>hR69) <|wy 4 rfl (Qe (.pointer (some ⟨bx1,0,none⟩)) hT30_0) (fun _=>hR69) <|wy 5 rfl (Qe (.int .i64 x4.n) hT30_5) (fun _=>hR69) ?_
 obtain ⟨d71,hd70,hz⟩:=Qb hz
 obtain ⟨cs70,hf70,ha70⟩ : ∃ cs,fillZ (([(0,192),(192,1),(193,8)]:List (Nat × Nat))[·]?) (Zr.zc GNode) []=some cs∧rep M29 cs d71:=⟨_,Z8,Z9 (x:=({ entries:=Zr.zd,order:=Zr.zd,values:=Zr.zd }:GNode)) (Zr.zr:rep M29 (Zr.zc GNode) (Zr.zd:GNode)) hd70⟩
 refine wy 6 rfl (Zx [] tb34 Vf hf70) (fun _=>hR69) <|wy 7 rfl (Q6 rfl) (fun _=>hR69) <|wy 8 rfl (Qp fa90_0 rfl) (fun _=>hR69) ?_
 obtain ⟨u72,hx73,hz⟩:=Qb hz
 obtain ⟨hx73a,hx73b⟩:=Qt hx73
 refine wy 9 rfl (Za ia86 rfl rfl hx73a hx73b) (fun _=>hR69) <|wy 11 rfl (Q6 rfl) (fun _=>hR69) <|wy 12 rfl (Qp fa90_2 rfl) (fun _=>hR69) <|wy 15 rfl (Q6 rfl) (fun _=>hR69) <|wy 16 rfl (Qp fa90_3 rfl) (fun _=>hR69) ?_
 obtain ⟨x76,hx77,hz⟩:=Qb hz
 obtain ⟨a78,hx79,hz⟩:=Qb hz
 obtain ⟨d80,hd75,hz⟩:=Qb hz
 have hq82:=(Zn hx77)
 refine w1 10 rfl (Q8 2 201 hS rfl hcx1 rfl rfl ha70 rfl rfl (K9 (rr hcx1) (vu (k:=201) rfl rfl (Yz (rr hcx1)) (Lf (vp (k:=201) rfl rfl (Yz (rr hcx1)) hx77) ha70) hx79)) hd75 ?_)
 intro cs75 w74 hb75 ha75 hs75 hS
 have hp81:=(ha75 (by omega)).trans hpx1_6
 refine Yr hS hG68 fun hR83 => ?_
 obtain ⟨u84,hx85,hz⟩:=Qb hz
 obtain ⟨hx85a,hx85b⟩:=Qt hx85
 refine wy 13 rfl (Za Jq rfl rfl hx85a hx85b) (fun _=>hR83) ?_
 obtain ⟨x88,hx89,hz⟩:=Qb hz
 obtain ⟨a90,hx91,hz⟩:=Qb hz
 obtain ⟨d92,hd87,hz⟩:=Qb hz
 have hq94:=(Zn hx89)
 refine w1 14 rfl (Q8 2 1 hS rfl hb75 rfl rfl (rb true:rep M29 _ _) rfl rfl (GCluster.u2 (rr hb75) (vu (k:=1) rfl rfl (Y4 (rr hb75)) (Lf (vp (k:=1) rfl rfl (Y4 (rr hb75)) hx89) (rb true:rep M29 _ _)) hx91)) hd87 ?_)
 intro cs87 w86 hb87 ha87 hs87 hS
 have hp93:=(ha87 (by omega)).trans hp81
 refine Yr hS hG68 fun hR95 => ?_
 obtain ⟨u96,hx97,hz⟩:=Qb hz
 obtain ⟨hx97a,hx97b⟩:=Qt hx97
 refine wy 17 rfl (Za ia55 rfl rfl hx97a hx97b) (fun _=>hR95) ?_
 obtain ⟨x100,hx101,hz⟩:=Qb hz
 obtain ⟨a102,hx103,hz⟩:=Qb hz
 obtain ⟨d104,hd99,hz⟩:=Qb hz
 have hq106:=(Zn hx101)
 refine w1 18 rfl (Q8 2 1 hS rfl hb87 rfl rfl (ri 0:rep M29 _ _) rfl rfl (GCluster.u3 (rr hb87) (vu (k:=1) rfl rfl (Ve (rr hb87)) (Lf (vp (k:=1) rfl rfl (Ve (rr hb87)) hx101) (ri 0:rep M29 _ _)) hx103)) hd99 ?_)
 intro cs99 w98 hb99 ha99 hs99 hS
 have hp105:=(ha99 (by omega)).trans hp93
 refine Yr hS hG68 fun hR107 => ?_
 refine wd (Q7 ?_)
 refine (Qa ?_)
 exact ⟨M29,(Zr.zc GReply),(Zr.zd:GReply),cs99,d104,ux1_6,xsx1_6,l3,hF27,hS,zb8,hb99,hkx1_6,hp105,hT30_4,hz⟩
 replace hz:=Qo hz hc66
 refine Qh <|Qi <|Qd (Qe (.pointer (some ⟨bx1,0,none⟩)) hT30_0) <|Qd (Qe (.int .i64 x4.n) hT30_5) <|Qd (Q6 rfl) <|Qd (Qp fa90_1 rfl) ?_
 obtain ⟨u108,hx109,hz⟩:=Qb hz
 obtain ⟨hx109a,hx109b⟩:=Qt hx109
 refine Qd (Za ia87 rfl rfl hx109a hx109b) ?_
 obtain ⟨x110,hx111,hz⟩:=Qb hz
 refine Qd (Ql (.string x110) ts9 rfl (hS.bvB 2 rfl) (vp (k:=1) rfl rfl (Y0 (rr hcx1)) hx111).1) ?_
 obtain ⟨r114,hr113,hz⟩:=Qb hz
 refine Qu (Y1 (vs:=[.string x110]) (rv:=(fun M' u => ∃ v0,u = .tuple #[v0,.int .i64 r114.2]∧repL M' v0 r114.1)) cb73 (Zu rfl) hS (bkRead_ok hS.agree hr113) ?_)
 intro u113 M113 w112 hx113 hu113 hS
 obtain ⟨v113_0,hq113,f113_0⟩:=hu113
 subst hq113
 replace hcx1:=Rep.mono hx113.1 hcx1
 refine Qd (Qe (.tuple #[v113_0,.int .i64 r114.2]) rfl) <|Qd (Zc (v:=v113_0) rfl rfl) <|Qd (Zc (v := .int .i64 r114.2) rfl rfl) <|Q2 2 rfl ?_
 refine Qf (Qa ?_)
 refine Qh <|Yt [.box bx1 cx1 90] [13] Z6 hS fun w115 hS hG116 hR117=>wy 0 rfl (Qe (.pointer (some ⟨bx1,0,none⟩)) hT30_0) (fun _=>hR117) <|wy 1 rfl (Qe (.int .i64 x4.n) hT30_5) (fun _=>hR117) <|wy 2 rfl (Qe (.pointer (some ⟨bx1,0,none⟩)) hT30_0) (fun _=>hR117) <|wy 3 rfl (Qe (.int .i64 x4.n) hT30_5) (fun _=>hR117) <|wy 4 rfl (Q6 rfl) (fun _=>hR117) <|wy 5 rfl (Qp fa90_1 rfl) (fun _=>hR117) ?_
 obtain ⟨u118,hx119,hz⟩:=Qb hz
 obtain ⟨hx119a,hx119b⟩:=Qt hx119
 refine wy 6 rfl (Za ia87 rfl rfl hx119a hx119b) (fun _=>hR117) ?_
 obtain ⟨x120,hx121,hz⟩:=Qb hz
 refine Y6 7 rfl (Ql (.string x120) ts9 rfl (Ym 0 rfl) (vp (k:=1) rfl rfl (Y0 (rr hcx1)) hx121).1) hR117 <|wy 8 rfl (Qe (.int .i64 r114.2) rfl) (fun _=>hR117) ?_
 obtain ⟨s123,hx122,hz⟩:=Qb hz
 obtain ⟨⟨pp122,qq122⟩,hc122,hx122⟩:=Option.map_eq_some_iff.1 hx122
 refine wy 9 rfl ((hx122 ▸ Y_cutS (l:=none) (h:=(some r114.2)) Zd rfl evn (evs rfl) hc122)) (fun _=>hR117) <|wy 10 rfl (Q6 rfl) (fun _=>hR117) <|wy 11 rfl (Qp fa90_1 rfl) (fun _=>hR117) ?_
 obtain ⟨u124,hx125,hz⟩:=Qb hz
 obtain ⟨hx125a,hx125b⟩:=Qt hx125
 refine wy 12 rfl (Za ia87 rfl rfl hx125a hx125b) (fun _=>hR117) ?_
 obtain ⟨_,hx127,hz⟩:=Qb hz
 have hx127:=Ke hx127
 obtain ⟨x129,hx130,hz⟩:=Qb hz
 obtain ⟨a131,hx132,hz⟩:=Qb hz
 obtain ⟨d133,hd128,hz⟩:=Qb hz
 have hq135:=(Zn hx130)
 refine w1 13 rfl (Q8 2 1 hS rfl hcx1 rfl rfl (V0 hx127:rep M113 [Value.string s123] s123) rfl rfl (GCluster.u1 (rr hcx1) (vu (k:=1) rfl rfl (Y0 (rr hcx1)) (Lf (vp (k:=1) rfl rfl (Y0 (rr hcx1)) hx130) (V0 hx127:rep M113 [Value.string s123] s123)) hx132)) hd128 ?_)
 intro cs128 w126 hb128 ha128 hs128 hS
 have hp134:=(ha128 (by omega)).trans hpx1_6
 refine ⟨nB,?_⟩
 refine wd (Qa ?_)
 refine Qh <|Yt [] [] Z6 hS fun w136 hS hG137 hR138=>wy 0 rfl (Qe (.pointer (some ⟨bx1,0,none⟩)) hT30_0) (fun _=>hR138) <|wy 1 rfl (Qe (.int .i64 x4.n) hT30_5) (fun _=>hR138) <|wy 2 rfl (Qe (.int .i64 x4.n) hT30_5) (fun _=>hR138) <|wy 3 rfl (Qe (v113_0) rfl) (fun _=>hR138) <|wy 8 rfl (Q6 rfl) (fun _=>hR138) <|wy 9 rfl (Qp fa90_0 rfl) (fun _=>hR138) ?_
 obtain ⟨r141,hr140,hz⟩:=Qb hz
 refine w1 4 rfl (Y1 (vs:=[.int .i64 x4.n,v113_0]) (rv:=(fun M' u => ∃ c0,u = .tuple #[.agg c0.toArray,.int .i64 r141.2]∧rep M' c0 r141.1)) cb74 (Ya rfl rfl) hS (nodeReplay_ok hS.agree f113_0 hr140) ?_)
 intro u140 M140 w139 hx140 hu140 hS
 obtain ⟨c140_0,hq140,f140_0⟩:=hu140
 subst hq140
 replace hkx1_6:=Zm (hx113.1.trans hx140.1) hkx1_6
 replace zb8:=Rep.mono (hx113.1.trans hx140.1) zb8
 replace hb128:=Rep.mono hx140.1 hb128
 replace hF27:=Qc hF27 (hx113.trans hx140)
 replace hG137:=Qc hG137 hx140
 refine Yr hS hG137 fun hR142=>wy 5 rfl (Qe (.tuple #[.agg c140_0.toArray,.int .i64 r141.2]) rfl) (fun _=>hR142) <|wy 6 rfl (Zc (v := .agg c140_0.toArray) rfl rfl) (fun _=>hR142) <|wy 7 rfl (Zc (v := .int .i64 r141.2) rfl rfl) (fun _=>hR142) ?_
 obtain ⟨u143,hx144,hz⟩:=Qb hz
 obtain ⟨hx144a,hx144b⟩:=Qt hx144
 refine wy 10 rfl (Za ia86 rfl rfl hx144a hx144b) (fun _=>hR142) ?_
 obtain ⟨x147,hx148,hz⟩:=Qb hz
 obtain ⟨a149,hx150,hz⟩:=Qb hz
 obtain ⟨d151,hd146,hz⟩:=Qb hz
 have hq153:=(Zn hx148)
 refine w1 11 rfl (Q8 2 201 hS rfl hb128 rfl rfl f140_0 rfl rfl (K9 (rr hb128) (vu (k:=201) rfl rfl (Yz (rr hb128)) (Lf (vp (k:=201) rfl rfl (Yz (rr hb128)) hx148) f140_0) hx150)) hd146 ?_)
 intro cs146 w145 hb146 ha146 hs146 hS
 have hp152:=(ha146 (by omega)).trans hp134
 refine Yr hS hG137 fun hR154 => ?_
 refine wd (Qa ?_)
 refine Qi <|Qd (Qe (.pointer (some ⟨bx1,0,none⟩)) hT30_0) <|Qd (Qe (.int .i64 x4.n) hT30_5) <|Qd (Q6 rfl) <|Qd (Qp fa90_2 rfl) ?_
 obtain ⟨u155,hx156,hz⟩:=Qb hz
 obtain ⟨hx156a,hx156b⟩:=Qt hx156
 refine Qd (Za Jq rfl rfl hx156a hx156b) ?_
 obtain ⟨x159,hx160,hz⟩:=Qb hz
 obtain ⟨a161,hx162,hz⟩:=Qb hz
 obtain ⟨d163,hd158,hz⟩:=Qb hz
 have hq165:=(Zn hx160)
 refine Qu (Q8 2 1 hS rfl hb146 rfl rfl (rb false:rep M140 _ _) rfl rfl (GCluster.u2 (rr hb146) (vu (k:=1) rfl rfl (Y4 (rr hb146)) (Lf (vp (k:=1) rfl rfl (Y4 (rr hb146)) hx160) (rb false:rep M140 _ _)) hx162)) hd158 ?_)
 intro cs158 w157 hb158 ha158 hs158 hS
 have hp164:=(ha158 (by omega)).trans hp152
 refine Qf (Q7 ?_)
 refine (Qa ?_)
 exact ⟨M140,(Zr.zc GReply),(Zr.zd:GReply),cs158,d163,ux1_6,xsx1_6,l3,hF27,hS,zb8,hb158,hkx1_6,hp164,hT30_4,hz⟩
 rintro T11 w9 ⟨M10,cs12,d13,cs14,d15,v16,xs17,l18,hx21,hS,hb12,hb14,hk19,hp20,hT11_4,hz⟩
 replace hE:=Qc hE hx21
 rw [clPower_j1] at hz
 refine Qh <|Qi ?_
 obtain ⟨d23,hd22,hz⟩:=Qb hz
 obtain ⟨cs22,hf22,ha22⟩ : ∃ cs,fillZ (([(0,1),(1,1),(2,1)]:List (Nat × Nat))[·]?) (Zr.zc GReply) []=some cs∧rep M10 cs d23:=⟨_,Z8,Z9 (x:=({ code:=Zr.zd,n:=Zr.zd,values:=Zr.zd }:GReply)) (Zr.zr:rep M10 (Zr.zc GReply) (Zr.zd:GReply)) hd22⟩
 refine Qd (Zx [] tb40 Vf hf22) ?_
 obtain ⟨d26,hd25,hz⟩:=Qb hz
 refine Qu (Q8 0 3 hS rfl hb12 hT11_4 rfl ha22 rfl rfl (Lf (rr hb12) ha22) hd25 ?_)
 intro cs25 w24 hb25 ha25 hs25 hS
 refine Qf (Qa ?_)
 cases hz
 exact Q4 (Jp (j:=0) rfl hT11_4 (by rw [Rep.len hb25];exact Kr) hS rfl ⟨_,M10,_,rfl,hE,(hS.sel (H':=[.box bx1 cs14 90,.stk v16 9 1 xs17]) [2,3] (by decide) rfl),cs25,cs14,v16,xs17,rfl,rfl,hb25,hb14,hk19,hp20⟩)
def clDo_j1 (fu:Nat) (d25:GReply) (d27:GCluster) (l30:List ByteArray):Option (GReply × GCluster × (List ByteArray)) :=
 (clNoD fu 3).bind fun r37 =>
 (some r37).bind fun d40 =>
 some (d40,d27,l30)
def clDo_j3 (fu:Nat) (l3:List ByteArray) (x4:GAct) (d19:GCluster) (d68:GReply):Option (GReply × GCluster × (List ByteArray)) :=
 (inR x4.n 32).bind fun _ =>
 (idxV d19.cases x4.n).bind fun x75 =>
 (againD fu x75 x4.n).bind fun r80 =>
 (clSendD fu d19 l3 r80).bind fun r84 =>
 (clToldD fu r84.1 x4.n).bind fun r87 =>
 (some r87).bind fun d90 =>
 some (d90,r84.1,r84.2)
def clDo_j4 (fu:Nat) (l3:List ByteArray) (x4:GAct) (d19:GCluster) (c95:Bool):Option (GReply × GCluster × (List ByteArray)) :=
 (bif c95 then
 (clNoD fu 4).bind fun r101 =>
 (some r101).bind fun d104 =>
 some (d104,d19,l3)
 else
 clDo_j3 fu l3 x4 d19 (Zr.zd:GReply))
def clDo_j5 (fu:Nat) (l3:List ByteArray) (x4:GAct) (d19:GCluster) (c113:Bool):Option (GReply × GCluster × (List ByteArray)) :=
 (bif c113 then
 (clPowerD fu d19 l3 x4).bind fun r119 =>
 (some r119.1).bind fun d122 =>
 some (d122,r119.2.1,r119.2.2)
 else
 clDo_j1 fu (Zr.zd:GReply) d19 l3)
def clDo_j2 (fu:Nat) (l3:List ByteArray) (x4:GAct) (d19:GCluster) (c53:Bool):Option (GReply × GCluster × (List ByteArray)) :=
 (bif c53 then
 (clFrameD fu d19 l3 x4).bind fun r59 =>
 (some r59.1).bind fun d62 =>
 some (d62,r59.2.1,r59.2.2)
 else
 (bif x4.kind==5 then
 (bif decide (x4.n<0) then
 clDo_j4 fu l3 x4 d19 true
 else
 clDo_j4 fu l3 x4 d19 (decide (x4.n≥d19.begun)))
 else
 (bif x4.kind==6 then
 clDo_j5 fu l3 x4 d19 (x4.kind==6)
 else
 (bif x4.kind==7 then
 clDo_j5 fu l3 x4 d19 (x4.kind==7)
 else
 clDo_j5 fu l3 x4 d19 (x4.kind==8)))))
def clDoD (fu:Nat) (x1:GCluster) (l3:List ByteArray) (x4:GAct):Option (GReply × GCluster × (List ByteArray)) :=
 (bif decide (x1.acts≥400) then
 (clNoD fu 5).bind fun r13 =>
 (some r13).bind fun d16 =>
 some (d16,x1,l3)
 else
 (some ({ x1 with acts:=IntKind.wrap .i64 (x1.acts+1) }:GCluster)).bind fun d19 =>
 (bif x4.kind==1 then
 (clBeginD fu d19 l3 x4.ops).bind fun r46 =>
 (some r46.1).bind fun d49 =>
 some (d49,r46.2.1,r46.2.2)
 else
 (bif x4.kind==2 then
 clDo_j2 fu l3 x4 d19 (x4.kind==2)
 else
 (bif x4.kind==3 then
 clDo_j2 fu l3 x4 d19 (x4.kind==3)
 else
 clDo_j2 fu l3 x4 d19 (x4.kind==4)))))
set_option maxRecDepth 100000 in
set_option maxHeartbeats 4000000 in
theorem clDo_ok {M:Mm} {w:World} {bx1:Nat} {cx1:List Value} {ux1_6:Value} {xsx1_6:List Value} {cx4:List Value} {x1:GCluster} {l3:List ByteArray} {x4:GAct} {fu:Nat} {r:GReply × GCluster × (List ByteArray)} (hS:St w (lentX [.box bx1 cx1 90,.stk ux1_6 9 1 xsx1_6]) M [.box bx1 cx1 90,.stk ux1_6 9 1 xsx1_6] w) (hcx1:rep M cx1 x1) (hkx1_6:skr M ux1_6 xsx1_6 l3) (hpx1_6:sl cx1 1993 1=[ux1_6]) (hcx4:rep M cx4 x4) (hz:clDoD fu x1 l3 x4=some r) :
    Calls Try.prog 19 #[.pointer (some ⟨bx1,0,none⟩),.agg cx4.toArray] w (GivesL M w [.box bx1 cx1 90,.stk ux1_6 9 1 xsx1_6] (fun M' u L' => ∃ c0 k0 u1 x1,u = .agg c0.toArray∧L'=[.box bx1 k0 90,.stk u1 9 1 x1]∧rep M' c0 r.1∧rep M' k0 r.2.1∧skr M' u1 x1 r.2.2∧sl k0 1993 1=[u1])):=by
 refine Zh Try.func19 rfl 82 rfl rfl (by kernel_rfl) fun T hT => ?_
 have hT_0:T 0 = .pointer (some ⟨bx1,0,none⟩):=hT 0
 have hT_1:T 1 = .agg cx4.toArray:=hT 1
 clear hT
 have hE:=Qg w.heap.size (lentX [.box bx1 cx1 90,.stk ux1_6 9 1 xsx1_6]) M
 rw [clDoD] at hz
 refine Qh <|Qi ?_
 refine Qu (Yo (v := .agg cx4.toArray) (cs:=cx4) hT_1 rfl hS ?_)
 intro b6 w5 hb6 hS
 refine Qu (Zf tz40 hS ?_)
 intro b8 w7 hb8 hS
 have zb8:rep M (Zr.zc GReply) (Zr.zd:GReply):=Zr.zr
 refine Qf (Qa ?_)
 refine Qh <|Qi <|Qd (Qj (evT (fun _=>undef) (.func 46)) rfl) ?_
 refine Qf (Qa ?_)
 refine Qh <|Qy <|Qh <|Qi <|Qd (Qe (.pointer (some ⟨bx1,0,none⟩)) hT_0) <|Qd (Y_eqNil rfl rfl Vm) <|Qd (Qj (.bool false) rfl) ?_
 refine Qf (Qa ?_)
 refine W_cond_f rfl <|Qh <|Qi <|Qd (Qe (.pointer (some ⟨bx1,0,none⟩)) hT_0) <|Qd (Q6 rfl) <|Qd (Qp fa90_7 rfl) <|Qd (Ql (.int .i64 x1.acts) Z5 rfl (hS.bvB 2 rfl) (GCluster.p7 (rr hcx1))) <|Qd (Va rfl rfl) <|Qd (Qj (.bool (decide (x1.acts≥400))) rfl) ?_
 refine Qf (Qa ?_)
 refine Qr rfl (fun hc9 => ?_) (fun hc9 => ?_)
 replace hz:=Qn hz hc9
 refine Qh <|Qi <|Qd (Qe (evT (fun _=>undef) (.func 46)) rfl) ?_
 obtain ⟨r13,hr12,hz⟩:=Qb hz
 refine Qu (OW_fn rfl (Y1 (vs:=[.int .i64 5]) (rv:=(fun M' u => ∃ cs,u = .agg cs.toArray∧rep M' cs r13)) cb46 (Zu rfl) hS (clNo_ok hS.agree hr12)) ?_)
 intro u12 M12 w11 hx12 hu12 hS
 obtain ⟨c12,hq12,f12⟩:=hu12
 subst hq12
 replace hcx1:=Rep.mono hx12.1 hcx1
 replace hkx1_6:=Zm hx12.1 hkx1_6
 replace zb8:=Rep.mono hx12.1 zb8
 replace hE:=Qc hE hx12
 obtain ⟨d16,hd15,hz⟩:=Qb hz
 refine Qu (Q8 0 3 hS rfl zb8 rfl rfl f12 rfl rfl (Lf (rr zb8) f12) hd15 ?_)
 intro cs15 w14 hb15 ha15 hs15 hS
 refine Qf (Qa ?_)
 cases hz
 exact Q4 (Zi (Qs (Jp (j:=0) rfl rfl (by rw [Rep.len hb15];exact Kr) hS rfl ⟨_,M12,_,rfl,hE,(hS.sel (H':=[.box bx1 cx1 90,.stk ux1_6 9 1 xsx1_6]) [2,3] (by decide) rfl),cs15,cx1,ux1_6,xsx1_6,rfl,rfl,hb15,hcx1,hkx1_6,hpx1_6⟩)))
 replace hz:=Qo hz hc9
 refine Qv (Q7 ?_)
 refine (Qa ?_)
 refine Qh <|Qi <|Qd (Qe (.pointer (some ⟨bx1,0,none⟩)) hT_0) <|Qd (Q6 rfl) <|Qd (Qp fa90_7 rfl) <|Qd (Ql (.int .i64 x1.acts) Z5 rfl (hS.bvB 2 rfl) (GCluster.p7 (rr hcx1))) <|Qd (Zz rfl rfl) <|Qd (Q6 rfl) <|Qd (Qp fa90_7 rfl) ?_
 obtain ⟨d19,hd18,hz⟩:=Qb hz
 refine Qu (Q8 2 1 hS rfl hcx1 rfl rfl (ri (IntKind.wrap .i64 (x1.acts+1)):rep M _ _) rfl rfl (GCluster.u7 (rr hcx1) (Lf (GCluster.p7 (rr hcx1)) (ri (IntKind.wrap .i64 (x1.acts+1)):rep M _ _))) hd18 ?_)
 intro cs18 w17 hb18 ha18 hs18 hS
 have hp20:=(ha18 (by omega)).trans hpx1_6
 refine Qf (Qa ?_)
 refine Qz (fun T' w' => ∃ M22 cs24 d25 cs26 d27 v28 xs29 l30,Mm.ext w.heap.size (lentX [.box bx1 cx1 90,.stk ux1_6 9 1 xsx1_6]) M M22∧St w (lentX [.box bx1 cx1 90,.stk ux1_6 9 1 xsx1_6]) M22 [.box b8 cs24 40,.box b6 cx4 43,.box bx1 cs26 90,.stk v28 9 1 xs29] w'∧rep M22 cs24 d25∧rep M22 cs26 d27∧skr M22 v28 xs29 l30∧sl cs26 (0+1993) 1=[v28]∧T' 4 = .pointer (some ⟨b8,0,none⟩)∧T' 5=evT (fun _=>undef) (.func 46)∧clDo_j1 fu d25 d27 l30=some r) ?_ ?_
 have hF41:=Qg w.heap.size (lentX [.box bx1 cx1 90,.stk ux1_6 9 1 xsx1_6]) M
 refine Qh <|Qi <|Qd (Qp Ja rfl) <|Qd (Ql (.int .i64 x4.kind) Z5 rfl (hS.bvB 1 rfl) (Ko (rr hcx4))) ?_
 refine Qf (Qa ?_)
 refine Qy <|Qh <|Qi <|Qd (Yc rfl rfl) <|Qd (Qj (.bool (x4.kind==1)) rfl) ?_
 refine Qf (Qa ?_)
 refine Qr rfl (fun hc42 => ?_) (fun hc42 => ?_)
 replace hz:=Qn hz hc42
 refine Qh <|Qi <|Qd (Qe (.pointer (some ⟨bx1,0,none⟩)) hT_0) <|Qd (Qp fa43_3 rfl) ?_
 obtain ⟨v43,ev43,hv43⟩:=(GAct.p3 (rr hcx4))
 refine Qd (Ql v43 Vn rfl (hS.bvB 1 rfl) ev43) ?_
 obtain ⟨r46,hr45,hz⟩:=Qb hz
 refine Qu (Zw (vs:=[.pointer (some ⟨bx1,0,none⟩),v43]) (L:=[.box bx1 cs18 90,.stk ux1_6 9 1 xsx1_6]) (R:=[.box b8 (Zr.zc GReply) 40,.box b6 cx4 43]) (rv:=(fun M' u L' => ∃ c0 k0 u1 x1,u = .agg c0.toArray∧L'=[.box bx1 k0 90,.stk u1 9 1 x1]∧rep M' c0 r46.1∧rep M' k0 r46.2.1∧skr M' u1 x1 r46.2.2∧sl k0 1993 1=[u1])) cb47 (Ya rfl rfl) hS (hS.sel [2,3,0,1] (by decide) rfl) (fun hS=>clBegin_ok hS hb18 hkx1_6 hp20 hv43 hr45) ?_)
 rintro u45 M45 w44 L45 hx45 ⟨c0_45,k0_45,u1_45,x1_45,rfl,hL45,f45_0,f45_1,f45_2,f45_3⟩ hS
 replace hS:=hS _ hL45
 replace zb8:=Rep.mono hx45.1 zb8
 replace hE:=Qc hE hx45
 obtain ⟨d49,hd48,hz⟩:=Qb hz
 refine Qu (Q8 2 3 hS rfl zb8 rfl rfl f45_0 rfl rfl (Lf (rr zb8) f45_0) hd48 ?_)
 intro cs48 w47 hb48 ha48 hs48 hS
 refine Qf (Qa ?_)
 cases hz
 exact Q4 (Zi (Qs (Jp (j:=2) rfl rfl (by rw [Rep.len hb48];exact Kr) hS rfl ⟨_,M45,_,rfl,hE,(hS.sel (H':=[.box bx1 k0_45 90,.stk u1_45 9 1 x1_45]) [0,1] (by decide) rfl),cs48,k0_45,u1_45,x1_45,rfl,rfl,hb48,f45_1,f45_2,f45_3⟩)))
 replace hz:=Qo hz hc42
 refine Qz (fun T' w' => ∃ M51 c53,Mm.ext w.heap.size (lentX [.box bx1 cx1 90,.stk ux1_6 9 1 xsx1_6]) M M51∧St w (lentX [.box bx1 cx1 90,.stk ux1_6 9 1 xsx1_6]) M51 [.box b8 (Zr.zc GReply) 40,.box b6 cx4 43,.box bx1 cs18 90,.stk ux1_6 9 1 xsx1_6] w'∧T' 0 = .pointer (some ⟨bx1,0,none⟩)∧T' 3 = .pointer (some ⟨b6,0,none⟩)∧T' 4 = .pointer (some ⟨b8,0,none⟩)∧T' 5=evT (fun _=>undef) (.func 46)∧T' 27 = .int .i64 x4.kind∧T' 34 = .bool c53∧clDo_j2 fu l3 x4 d19 c53=some r) ?_ ?_
 have hF126:=Qg w.heap.size (lentX [.box bx1 cx1 90,.stk ux1_6 9 1 xsx1_6]) M
 refine Qh <|Qi <|Qd (Yc rfl rfl) <|Qd (Qj (.bool (x4.kind==2)) rfl) ?_
 refine Qf (Qa ?_)
 refine Qr rfl (fun hc127 => ?_) (fun hc127 => ?_)
 replace hz:=Qn hz hc127
 refine Qv (Qa ?_)
 exact ⟨M,(x4.kind==2),hF126,hS,hT_0,rfl,rfl,rfl,rfl,rfl,hz⟩
 replace hz:=Qo hz hc127
 refine Qh <|Qi <|Qd (Yc rfl rfl) <|Qd (Qj (.bool (x4.kind==3)) rfl) ?_
 refine Qf (Qa ?_)
 refine Qr rfl (fun hc128 => ?_) (fun hc128 => ?_)
 replace hz:=Qn hz hc128
 refine Qv (Qa ?_)
 exact ⟨M,(x4.kind==3),hF126,hS,hT_0,rfl,rfl,rfl,rfl,rfl,hz⟩
 replace hz:=Qo hz hc128
 refine Qi <|Qd (Yc rfl rfl) <|Qd (Qj (.bool (x4.kind==4)) rfl) ?_
 refine Qf (Qa ?_)
 exact ⟨M,(x4.kind==4),hF126,hS,hT_0,rfl,rfl,rfl,rfl,rfl,hz⟩
 rintro T52 w50 ⟨M51,c53,hx54,hS,hT52_0,hT52_3,hT52_4,hT52_5,hT52_27,hT52_34,hz⟩
 replace hkx1_6:=Zm hx54.1 hkx1_6
 replace hcx4:=Rep.mono hx54.1 hcx4
 replace zb8:=Rep.mono hx54.1 zb8
 replace hb18:=Rep.mono hx54.1 hb18
 replace hE:=Qc hE hx54
 replace hF41:=Qc hF41 hx54
 rw [clDo_j2] at hz
 refine Qr hT52_34 (fun hc55 => ?_) (fun hc55 => ?_)
 replace hz:=Qn hz hc55
 refine Qh <|Qi <|Qd (Qe (.pointer (some ⟨bx1,0,none⟩)) hT52_0) ?_
 have ha56:=(rr hcx4)
 refine Qd (Zg ta43 hT52_3 (hS.bvB 1 rfl) (Rep.len ha56)) ?_
 obtain ⟨r59,hr58,hz⟩:=Qb hz
 refine Qu (Zw (vs:=[.pointer (some ⟨bx1,0,none⟩),.agg (sl cx4 (0) 4).toArray]) (L:=[.box bx1 cs18 90,.stk ux1_6 9 1 xsx1_6]) (R:=[.box b8 (Zr.zc GReply) 40,.box b6 cx4 43]) (rv:=(fun M' u L' => ∃ c0 k0 u1 x1,u = .agg c0.toArray∧L'=[.box bx1 k0 90,.stk u1 9 1 x1]∧rep M' c0 r59.1∧rep M' k0 r59.2.1∧skr M' u1 x1 r59.2.2∧sl k0 1993 1=[u1])) cb48 (Ya rfl rfl) hS (hS.sel [2,3,0,1] (by decide) rfl) (fun hS=>clFrame_ok hS hb18 hkx1_6 hp20 ha56 hr58) ?_)
 rintro u58 M58 w57 L58 hx58 ⟨c0_58,k0_58,u1_58,x1_58,rfl,hL58,f58_0,f58_1,f58_2,f58_3⟩ hS
 replace hS:=hS _ hL58
 replace zb8:=Rep.mono hx58.1 zb8
 replace hE:=Qc hE hx58
 obtain ⟨d62,hd61,hz⟩:=Qb hz
 refine Qu (Q8 2 3 hS rfl zb8 hT52_4 rfl f58_0 rfl rfl (Lf (rr zb8) f58_0) hd61 ?_)
 intro cs61 w60 hb61 ha61 hs61 hS
 refine Qf (Qa ?_)
 cases hz
 exact Q4 (Zi (Qs (Jp (j:=2) rfl hT52_4 (by rw [Rep.len hb61];exact Kr) hS rfl ⟨_,M58,_,rfl,hE,(hS.sel (H':=[.box bx1 k0_58 90,.stk u1_58 9 1 x1_58]) [0,1] (by decide) rfl),cs61,k0_58,u1_58,x1_58,rfl,rfl,hb61,f58_1,f58_2,f58_3⟩)))
 replace hz:=Qo hz hc55
 refine Qh <|Qi <|Qd (Yc hT52_27 rfl) <|Qd (Qj (.bool (x4.kind==5)) rfl) ?_
 refine Qf (Qa ?_)
 refine Qr rfl (fun hc63 => ?_) (fun hc63 => ?_)
 replace hz:=Qn hz hc63
 refine Qz (fun T' w' => ∃ M65 cs67 d68,Mm.ext w.heap.size (lentX [.box bx1 cx1 90,.stk ux1_6 9 1 xsx1_6]) M51 M65∧St w (lentX [.box bx1 cx1 90,.stk ux1_6 9 1 xsx1_6]) M65 [.box b8 cs67 40,.box b6 cx4 43,.box bx1 cs18 90,.stk ux1_6 9 1 xsx1_6] w'∧rep M65 cs67 d68∧T' 0 = .pointer (some ⟨bx1,0,none⟩)∧T' 3 = .pointer (some ⟨b6,0,none⟩)∧T' 4 = .pointer (some ⟨b8,0,none⟩)∧clDo_j3 fu l3 x4 d19 d68=some r) ?_ ?_
 have hF91:=Qg w.heap.size (lentX [.box bx1 cx1 90,.stk ux1_6 9 1 xsx1_6]) M51
 refine Qz (fun T' w' => ∃ M93 c95,Mm.ext w.heap.size (lentX [.box bx1 cx1 90,.stk ux1_6 9 1 xsx1_6]) M51 M93∧St w (lentX [.box bx1 cx1 90,.stk ux1_6 9 1 xsx1_6]) M93 [.box b8 (Zr.zc GReply) 40,.box b6 cx4 43,.box bx1 cs18 90,.stk ux1_6 9 1 xsx1_6] w'∧T' 0 = .pointer (some ⟨bx1,0,none⟩)∧T' 3 = .pointer (some ⟨b6,0,none⟩)∧T' 4 = .pointer (some ⟨b8,0,none⟩)∧T' 5=evT (fun _=>undef) (.func 46)∧T' 54 = .bool c95∧clDo_j4 fu l3 x4 d19 c95=some r) ?_ ?_
 have hF105:=Qg w.heap.size (lentX [.box bx1 cx1 90,.stk ux1_6 9 1 xsx1_6]) M51
 refine Yt [.box b6 cx4 43,.box bx1 cs18 90] [] Z6 hS fun w106 hS hG107 hR108=>wy 0 rfl (Qp Ks hT52_3) (fun _=>hR108) <|Y6 1 rfl (Ql (.int .i64 x4.n) Z5 rfl (Ym 0 rfl) (V5 (rr hcx4))) hR108 <|wy 2 rfl (Zq rfl rfl) (fun _=>hR108) <|wy 3 rfl (Qe (.bool (decide (x4.n<0))) rfl) (fun _=>hR108) ?_
 rcases ic hz with ⟨hc109,hz⟩ | ⟨hc109,hz⟩<;>rw [hc109]
 refine Yg 4 (j:=3) rfl rfl rfl rfl (fun _=>hR108) <|Yg 5 (j:=3) rfl rfl rfl rfl (fun _=>hR108) <|Yg 6 (j:=3) rfl rfl rfl rfl (fun _=>hR108) <|Yg 7 (j:=3) rfl rfl rfl rfl (fun _=>hR108) <|Yg 8 (j:=3) rfl rfl rfl rfl (fun _=>hR108) <|Yg 9 (j:=3) rfl rfl rfl rfl (fun _=>hR108) <|Yg 10 (j:=3) rfl rfl rfl rfl (fun _=>hR108) <|wy 11 rfl (Zp (.bool true) rfl rfl) (fun _=>hR108) ?_
 refine wd (Qa ?_)
 exact ⟨M51,true,hF105,hS,hT52_0,hT52_3,hT52_4,hT52_5,rfl,hz⟩
 refine Vq 4 rfl rfl rfl (Qp Ks hT52_3) (fun _=>hR108) <|Kh 5 rfl rfl rfl (Ql (.int .i64 x4.n) Z5 rfl (Ym 0 rfl) (V5 (rr hcx4))) hR108 <|Vq 6 rfl rfl rfl (Qe (.pointer (some ⟨bx1,0,none⟩)) hT52_0) (fun _=>hR108) <|Vq 7 rfl rfl rfl (Q6 rfl) (fun _=>hR108) <|Vq 8 rfl rfl rfl (Qp fa90_5 rfl) (fun _=>hR108) <|Kh 9 rfl rfl rfl (Ql (.int .i64 d19.begun) Z5 rfl (Ym 1 rfl) (Vv (rr hb18))) hR108 <|Vq 10 rfl rfl rfl (Va rfl rfl) (fun _=>hR108) <|wy 11 rfl (Ze (.bool (decide (x4.n≥d19.begun))) rfl rfl) (fun _=>hR108) ?_
 refine wd (Qa ?_)
 exact ⟨M51,(decide (x4.n≥d19.begun)),hF105,hS,hT52_0,hT52_3,hT52_4,hT52_5,rfl,hz⟩
 rintro T94 w92 ⟨M93,c95,hx96,hS,hT94_0,hT94_3,hT94_4,hT94_5,hT94_54,hz⟩
 replace hkx1_6:=Zm hx96.1 hkx1_6
 replace zb8:=Rep.mono hx96.1 zb8
 replace hb18:=Rep.mono hx96.1 hb18
 replace hE:=Qc hE hx96
 replace hF91:=Qc hF91 hx96
 rw [clDo_j4] at hz
 refine Qr hT94_54 (fun hc97 => ?_) (fun hc97 => ?_)
 replace hz:=Qn hz hc97
 refine Qh <|Qi <|Qd (Qe (evT (fun _=>undef) (.func 46)) hT94_5) ?_
 obtain ⟨r101,hr100,hz⟩:=Qb hz
 refine Qu (OW_fn rfl (Y1 (vs:=[.int .i64 4]) (rv:=(fun M' u => ∃ cs,u = .agg cs.toArray∧rep M' cs r101)) cb46 (Zu rfl) hS (clNo_ok hS.agree hr100)) ?_)
 intro u100 M100 w99 hx100 hu100 hS
 obtain ⟨c100,hq100,f100⟩:=hu100
 subst hq100
 replace hkx1_6:=Zm hx100.1 hkx1_6
 replace zb8:=Rep.mono hx100.1 zb8
 replace hb18:=Rep.mono hx100.1 hb18
 replace hE:=Qc hE hx100
 obtain ⟨d104,hd103,hz⟩:=Qb hz
 refine Qu (Q8 0 3 hS rfl zb8 hT94_4 rfl f100 rfl rfl (Lf (rr zb8) f100) hd103 ?_)
 intro cs103 w102 hb103 ha103 hs103 hS
 refine Qf (Qa ?_)
 cases hz
 exact Q4 (Qs (Zi (Qs (Jp (j:=0) rfl hT94_4 (by rw [Rep.len hb103];exact Kr) hS rfl ⟨_,M100,_,rfl,hE,(hS.sel (H':=[.box bx1 cs18 90,.stk ux1_6 9 1 xsx1_6]) [2,3] (by decide) rfl),cs103,cs18,ux1_6,xsx1_6,rfl,rfl,hb103,hb18,hkx1_6,hp20⟩))))
 replace hz:=Qo hz hc97
 refine Qv (Qa ?_)
 exact ⟨M93,(Zr.zc GReply),(Zr.zd:GReply),hF91,hS,zb8,hT94_0,hT94_3,hT94_4,hz⟩
 rintro T66 w64 ⟨M65,cs67,d68,hx69,hS,hb67,hT66_0,hT66_3,hT66_4,hz⟩
 replace hcx4:=Rep.mono hx69.1 hcx4
 replace hb18:=Rep.mono hx69.1 hb18
 rw [clDo_j3] at hz
 refine Qh <|Yt [.box b6 cx4 43,.box bx1 cs18 90] [11] Z6 hS fun w70 hS hG71 hR72=>wy 0 rfl (Qe (.pointer (some ⟨bx1,0,none⟩)) hT66_0) (fun _=>hR72) <|wy 1 rfl (Qe (.pointer (some ⟨bx1,0,none⟩)) hT66_0) (fun _=>hR72) <|wy 2 rfl (Qp Ks hT66_3) (fun _=>hR72) <|wlC (inL [6,7,10,11]) 3 rfl (Ql (.int .i64 x4.n) Z5 rfl (Ym 0 rfl) (V5 (rr hcx4))) hR72 <|wy 4 rfl (Q6 rfl) (fun _=>hR72) <|wy 5 rfl (Qp fa90_4 rfl) (fun _=>hR72) ?_
 obtain ⟨u73,hx74,hz⟩:=Qb hz
 obtain ⟨hx74a,hx74b⟩:=Qt hx74
 refine wy 6 rfl (Za ia88 rfl rfl hx74a hx74b) (fun _=>hR72) ?_
 obtain ⟨x75,hx76,hz⟩:=Qb hz
 have ha77:=(vp (k:=24) rfl rfl (Vd (rr hb18)) hx76)
 refine wlC (inL [10,11]) 7 rfl (Zg Vb rfl (Ym 1 rfl) (Rep.len ha77)) hR72 <|wy 8 rfl (Qp Ks hT66_3) (fun _=>hR72) <|wlC (inL [10,11]) 9 rfl (Ql (.int .i64 x4.n) Z5 rfl (Ym 0 rfl) (V5 (rr hcx4))) hR72 ?_
 obtain ⟨r80,hr79,hz⟩:=Qb hz
 refine w1 10 rfl (Y1 (vs:=[.agg (sl cs18 (0+1224+Int.toNat x4.n*24) 24).toArray,.int .i64 x4.n]) (rv:=(fun M' u=>repL M' u r80)) cb50 (Ya rfl rfl) hS (again_ok hS.agree ha77 hr79) ?_)
 intro u79 M79 w78 hx79 hu79 hS
 have f79:repL M79 u79 r80:=hu79
 replace hkx1_6:=Zm (hx69.1.trans hx79.1) hkx1_6
 replace hb18:=Rep.mono hx79.1 hb18
 replace hG71:=Qc hG71 hx79
 refine Yr hS hG71 fun hR81 => ?_
 obtain ⟨r84,hr83,hz⟩:=Qb hz
 refine w1 11 rfl (Zw (vs:=[.pointer (some ⟨bx1,0,none⟩),u79]) (L:=[.box bx1 cs18 90,.stk ux1_6 9 1 xsx1_6]) (R:=[.box b8 cs67 40,.box b6 cx4 43]) (rv:=(fun M' u L' => ∃ k0 u1 x1,u = .tuple #[]∧L'=[.box bx1 k0 90,.stk u1 9 1 x1]∧rep M' k0 r84.1∧skr M' u1 x1 r84.2∧sl k0 1993 1=[u1])) cb49 (Ya rfl rfl) hS (hS.sel [2,3,0,1] (by decide) rfl) (fun hS=>clSend_ok hS hb18 hkx1_6 hp20 f79 hr83) ?_)
 rintro u83 M83 w82 L83 hx83 ⟨k0_83,u1_83,x1_83,rfl,hL83,f83_0,f83_1,f83_2⟩ hS
 replace hS:=hS _ hL83
 replace hcx4:=Rep.mono (hx79.1.trans hx83.1) hcx4
 refine ⟨nB,?_⟩
 refine wd (Qa ?_)
 refine Qh <|Qi <|Qd (Qe (.pointer (some ⟨bx1,0,none⟩)) hT66_0) <|Qd (Qp Ks hT66_3) <|Qd (Ql (.int .i64 x4.n) Z5 rfl (hS.bvB 3 rfl) (V5 (rr hcx4))) ?_
 obtain ⟨r87,hr86,hz⟩:=Qb hz
 refine Qu (Zw (vs:=[.pointer (some ⟨bx1,0,none⟩),.int .i64 x4.n]) (L:=[.box bx1 k0_83 90]) (R:=[.stk u1_83 9 1 x1_83,.box b8 cs67 40,.box b6 cx4 43]) (rv:=(fun M' u L' => ∃ c0,u = .agg c0.toArray∧L'=[.box bx1 k0_83 90]∧rep M' c0 r87)) cb51 (Ya rfl rfl) hS (hS.sel [0,1,2,3] (by decide) rfl) (fun hS=>clTold_ok hS f83_0 hr86) ?_)
 rintro u86 M86 w85 L86 hx86 ⟨c0_86,rfl,hL86,f86_0⟩ hS
 replace hS:=hS _ hL86
 replace hb67:=Rep.mono (hx79.1.trans (hx83.1.trans hx86.1)) hb67
 replace f83_0:=Rep.mono hx86.1 f83_0
 replace f83_1:=Zm hx86.1 f83_1
 replace hE:=Qc hE (hx69.trans (hx79.trans (hx83.trans hx86)))
 obtain ⟨d90,hd89,hz⟩:=Qb hz
 refine Qu (Q8 2 3 hS rfl hb67 hT66_4 rfl f86_0 rfl rfl (Lf (rr hb67) f86_0) hd89 ?_)
 intro cs89 w88 hb89 ha89 hs89 hS
 refine Qf (Qa ?_)
 cases hz
 exact Q4 (Zi (Qs (Jp (j:=2) rfl hT66_4 (by rw [Rep.len hb89];exact Kr) hS rfl ⟨_,M86,_,rfl,hE,(hS.sel (H':=[.box bx1 k0_83 90,.stk u1_83 9 1 x1_83]) [0,1] (by decide) rfl),cs89,k0_83,u1_83,x1_83,rfl,rfl,hb89,f83_0,f83_1,f83_2⟩)))
 replace hz:=Qo hz hc63
 refine Qz (fun T' w' => ∃ M111 c113,Mm.ext w.heap.size (lentX [.box bx1 cx1 90,.stk ux1_6 9 1 xsx1_6]) M51 M111∧St w (lentX [.box bx1 cx1 90,.stk ux1_6 9 1 xsx1_6]) M111 [.box b8 (Zr.zc GReply) 40,.box b6 cx4 43,.box bx1 cs18 90,.stk ux1_6 9 1 xsx1_6] w'∧T' 0 = .pointer (some ⟨bx1,0,none⟩)∧T' 3 = .pointer (some ⟨b6,0,none⟩)∧T' 4 = .pointer (some ⟨b8,0,none⟩)∧T' 5=evT (fun _=>undef) (.func 46)∧T' 73 = .bool c113∧clDo_j5 fu l3 x4 d19 c113=some r) ?_ ?_
 have hF123:=Qg w.heap.size (lentX [.box bx1 cx1 90,.stk ux1_6 9 1 xsx1_6]) M51
 refine Qh <|Qi <|Qd (Yc hT52_27 rfl) <|Qd (Qj (.bool (x4.kind==6)) rfl) ?_
 refine Qf (Qa ?_)
 refine Qr rfl (fun hc124 => ?_) (fun hc124 => ?_)
 replace hz:=Qn hz hc124
 refine Qv (Qa ?_)
 exact ⟨M51,(x4.kind==6),hF123,hS,hT52_0,hT52_3,hT52_4,hT52_5,rfl,hz⟩
 replace hz:=Qo hz hc124
 refine Qh <|Qi <|Qd (Yc hT52_27 rfl) <|Qd (Qj (.bool (x4.kind==7)) rfl) ?_
 refine Qf (Qa ?_)
 refine Qr rfl (fun hc125 => ?_) (fun hc125 => ?_)
 replace hz:=Qn hz hc125
 refine Qv (Qa ?_)
 exact ⟨M51,(x4.kind==7),hF123,hS,hT52_0,hT52_3,hT52_4,hT52_5,rfl,hz⟩
 replace hz:=Qo hz hc125
 refine Qi <|Qd (Yc hT52_27 rfl) <|Qd (Qj (.bool (x4.kind==8)) rfl) ?_
 refine Qf (Qa ?_)
 exact ⟨M51,(x4.kind==8),hF123,hS,hT52_0,hT52_3,hT52_4,hT52_5,rfl,hz⟩
 rintro T112 w110 ⟨M111,c113,hx114,hS,hT112_0,hT112_3,hT112_4,hT112_5,hT112_73,hz⟩
 replace hkx1_6:=Zm hx114.1 hkx1_6
 replace hcx4:=Rep.mono hx114.1 hcx4
 replace zb8:=Rep.mono hx114.1 zb8
 replace hb18:=Rep.mono hx114.1 hb18
 replace hE:=Qc hE hx114
 replace hF41:=Qc hF41 hx114
 rw [clDo_j5] at hz
 refine Qr hT112_73 (fun hc115 => ?_) (fun hc115 => ?_)
 replace hz:=Qn hz hc115
 refine Qh <|Qi <|Qd (Qe (.pointer (some ⟨bx1,0,none⟩)) hT112_0) ?_
 have ha116:=(rr hcx4)
 refine Qd (Zg ta43 hT112_3 (hS.bvB 1 rfl) (Rep.len ha116)) ?_
 obtain ⟨r119,hr118,hz⟩:=Qb hz
 refine Qu (Zw (vs:=[.pointer (some ⟨bx1,0,none⟩),.agg (sl cx4 (0) 4).toArray]) (L:=[.box bx1 cs18 90,.stk ux1_6 9 1 xsx1_6]) (R:=[.box b8 (Zr.zc GReply) 40,.box b6 cx4 43]) (rv:=(fun M' u L' => ∃ c0 k0 u1 x1,u = .agg c0.toArray∧L'=[.box bx1 k0 90,.stk u1 9 1 x1]∧rep M' c0 r119.1∧rep M' k0 r119.2.1∧skr M' u1 x1 r119.2.2∧sl k0 1993 1=[u1])) cb52 (Ya rfl rfl) hS (hS.sel [2,3,0,1] (by decide) rfl) (fun hS=>clPower_ok hS hb18 hkx1_6 hp20 ha116 hr118) ?_)
 rintro u118 M118 w117 L118 hx118 ⟨c0_118,k0_118,u1_118,x1_118,rfl,hL118,f118_0,f118_1,f118_2,f118_3⟩ hS
 replace hS:=hS _ hL118
 replace zb8:=Rep.mono hx118.1 zb8
 replace hE:=Qc hE hx118
 obtain ⟨d122,hd121,hz⟩:=Qb hz
 refine Qu (Q8 2 3 hS rfl zb8 hT112_4 rfl f118_0 rfl rfl (Lf (rr zb8) f118_0) hd121 ?_)
 intro cs121 w120 hb121 ha121 hs121 hS
 refine Qf (Qa ?_)
 cases hz
 exact Q4 (Zi (Qs (Jp (j:=2) rfl hT112_4 (by rw [Rep.len hb121];exact Kr) hS rfl ⟨_,M118,_,rfl,hE,(hS.sel (H':=[.box bx1 k0_118 90,.stk u1_118 9 1 x1_118]) [0,1] (by decide) rfl),cs121,k0_118,u1_118,x1_118,rfl,rfl,hb121,f118_1,f118_2,f118_3⟩)))
 replace hz:=Qo hz hc115
 refine Qv (Q7 ?_)
 refine (Qa ?_)
 exact ⟨M111,(Zr.zc GReply),(Zr.zd:GReply),cs18,d19,ux1_6,xsx1_6,l3,hF41,hS,zb8,hb18,hkx1_6,hp20,hT112_4,hT112_5,hz⟩
 rintro T23 w21 ⟨M22,cs24,d25,cs26,d27,v28,xs29,l30,hx33,hS,hb24,hb26,hk31,hp32,hT23_4,hT23_5,hz⟩
 rw [clDo_j1] at hz
 refine Qh <|Qi <|Qd (Qe (evT (fun _=>undef) (.func 46)) hT23_5) ?_
 obtain ⟨r37,hr36,hz⟩:=Qb hz
 refine Qu (OW_fn rfl (Y1 (vs:=[.int .i64 3]) (rv:=(fun M' u => ∃ cs,u = .agg cs.toArray∧rep M' cs r37)) cb46 (Zu rfl) hS (clNo_ok hS.agree hr36)) ?_)
 intro u36 M36 w35 hx36 hu36 hS
 obtain ⟨c36,hq36,f36⟩:=hu36
 subst hq36
 replace hb24:=Rep.mono hx36.1 hb24
 replace hb26:=Rep.mono hx36.1 hb26
 replace hk31:=Zm hx36.1 hk31
 replace hE:=Qc hE (hx33.trans hx36)
 obtain ⟨d40,hd39,hz⟩:=Qb hz
 refine Qu (Q8 0 3 hS rfl hb24 hT23_4 rfl f36 rfl rfl (Lf (rr hb24) f36) hd39 ?_)
 intro cs39 w38 hb39 ha39 hs39 hS
 refine Qf (Qa ?_)
 cases hz
 exact Q4 (Jp (j:=0) rfl hT23_4 (by rw [Rep.len hb39];exact Kr) hS rfl ⟨_,M36,_,rfl,hE,(hS.sel (H':=[.box bx1 cs26 90,.stk v28 9 1 xs29]) [2,3] (by decide) rfl),cs39,cs26,v28,xs29,rfl,rfl,hb39,hb26,hk31,hp32⟩)
def clNewD (fu:Nat):Option (GCluster × (List ByteArray)) :=
 (some ({ nodes:=Zr.zd,logs:=Zr.zd,down:=Zr.zd,tear:=Zr.zd,cases:=Zr.zd,begun:=Zr.zd,net:=Zr.zd,acts:=Zr.zd }:GCluster)).bind fun d2 =>
 some (d2,([]:List ByteArray))
set_option maxRecDepth 100000 in
set_option maxHeartbeats 4000000 in
theorem clNew_ok {M:Mm} {w:World} {fu:Nat} {r:GCluster × (List ByteArray)} (hA:Agree M w)  (hz:clNewD fu=some r) :
    Calls Try.prog 41 #[] w (GivesL M w [] (fun M' u L' => ∃ bP0 kP0 uP6 xP6,u = .pointer (some ⟨bP0,0,none⟩)∧L'=[.box bP0 kP0 90,.stk uP6 9 1 xP6]∧rep M' kP0 r.1∧skr M' uP6 xP6 r.2∧sl kP0 1993 1=[uP6])):=by
 refine Zh Try.func41 rfl 3 rfl rfl (by kernel_rfl) fun T hT => ?_
 clear hT
 have hE:=Qg w.heap.size (lentX []) M
 have hS:St w (lentX []) M [] w:=Zv hA
 rw [clNewD] at hz
 refine Qh <|Qi <|Qd (Qj (.pointer none) rfl) ?_
 refine Qf (Qa ?_)
 refine Qh <|Qi ?_
 obtain ⟨d2,hd1,hz⟩:=Qb hz
 obtain ⟨cs1,hf1,ha1⟩ : ∃ cs,fillZ (([(0,1206),(1206,6),(1212,6),(1218,6),(1224,768),(1992,1),(1993,1),(1994,1)]:List (Nat × Nat))[·]?) (Zr.zc GCluster) []=some cs∧rep M cs d2:=⟨_,Z8,Z9 (x:=({ nodes:=Zr.zd,logs:=Zr.zd,down:=Zr.zd,tear:=Zr.zd,cases:=Zr.zd,begun:=Zr.zd,net:=Zr.zd,acts:=Zr.zd }:GCluster)) (Zr.zr:rep M (Zr.zc GCluster) (Zr.zd:GCluster)) hd1⟩
 have hp3:sl cs1 1993 1=[.slice none 0 0]:=(Yx hf1 (by rfl)).trans (by rfl)
 replace hS:=hS.nilStk 9 1
 have hk5:skr M (.slice none 0 0) [] ([]:List ByteArray):=skr_nil
 refine Qd (Zx [] tb90 Vf hf1) ?_
 refine Qu (Yo (v := .agg cs1.toArray) (cs:=cs1) rfl rfl hS ?_)
 intro b7 w6 hb7 hS
 refine Qd (Qj (.pointer (some ⟨b7,0,none⟩)) rfl) ?_
 refine Qf (Qa ?_)
 cases hz
 exact Q4 (Yj rfl rfl ⟨_,M,_,rfl,hE,(hS.sel (H':=[.box b7 cs1 90,.stk (.slice none 0 0) 9 1 []]) [0,1] (by decide) rfl),b7,cs1,(.slice none 0 0),[],rfl,rfl,ha1,hk5,hp3⟩)
end Go.Proofs.Yteilffoclpgijaa
namespace Go.Proofs.Yteilffoclpgijaa
open Go.RowKit
open Rep (rep)
set_option linter.unusedVariables false
def alive_j1 (d41:GCluster) (l44:List ByteArray) (c47:Bool):Option Bool :=
 some c47
def aliveD (fu:Nat):Option Bool :=
 (clNewD fu).bind fun r3 =>
 (some ({ kind:=2,key:=1,n:=4 }:GOp)).bind fun d6 =>
 (some ({ kind:=1,n:=Zr.zd,m:=Zr.zd,ops:=([d6]:List GOp) }:GAct)).bind fun d10 =>
 (clDoD fu r3.1 r3.2 d10).bind fun r13 =>
 (some r13.1).bind fun d18 =>
 (some ({ kind:=2,n:=1,m:=Zr.zd,ops:=Zr.zd }:GAct)).bind fun d20 =>
 (clDoD fu r13.2.1 r13.2.2 d20).bind fun r23 =>
 (some r23.1).bind fun d28 =>
 (clNodeD fu r23.2.1 4).bind fun r31 =>
 (some r31.1).bind fun d36 =>
 (bif d18.code==0 then
 (bif d28.code==0 then
 (clNetD fu r23.2.1 r23.2.2).bind fun r54 =>
 (bif (r54.1.length:Int)==3 then
 (idxV d36.entries 0).bind fun x57 =>
 alive_j1 r23.2.1 r54.2 (x57.state==1)
 else
 alive_j1 r23.2.1 r54.2 false)
 else
 alive_j1 r23.2.1 r23.2.2 false)
 else
 alive_j1 r23.2.1 r23.2.2 false)
set_option maxRecDepth 100000 in
set_option maxHeartbeats 4000000 in
theorem alive_ok {M:Mm} {w:World} {fu:Nat} {r:Bool} (hA:Agree M w)  (hz:aliveD fu=some r) :
    Calls Try.prog 33 #[] w (GivesV w (.bool r)):=by
 refine Zh Try.func33 rfl 43 rfl rfl (by kernel_rfl) fun T hT => ?_
 clear hT
 have hE:=Qg w.heap.size noX M
 have hS:St w noX M [] w:=Zv hA
 rw [aliveD] at hz
 refine Qh <|Qi <|Qd (Qj (.bool false) rfl) ?_
 refine Qf (Qa ?_)
 refine Qh <|Qi ?_
 obtain ⟨r3,hr2,hz⟩:=Qb hz
 refine Qu (Zw (vs:=[]) (L:=[]) (R:=[]) (rv:=(fun M' u L' => ∃ bP0 kP0 uP6 xP6,u = .pointer (some ⟨bP0,0,none⟩)∧L'=[.box bP0 kP0 90,.stk uP6 9 1 xP6]∧rep M' kP0 r3.1∧skr M' uP6 xP6 r3.2∧sl kP0 1993 1=[uP6])) cb41 args0 hS (hS.sel [] (by decide) rfl) (fun hS=>clNew_ok hS.agree hr2) ?_)
 rintro u2 M2 w1 L2 hx2 ⟨bP0_2,kP0_2,uP6_2,xP6_2,rfl,hL2,f2_0,f2_1,f2_2⟩ hS
 replace hS:=hS _ hL2
 refine Qd (Qj (.pointer (some ⟨bP0_2,0,none⟩)) rfl) ?_
 refine Qf (Qa ?_)
 refine Qh <|Qh <|Qi <|Qd (Qe (.pointer (some ⟨bP0_2,0,none⟩)) rfl) <|Qd (Y_eqNil rfl rfl Vm) ?_
 refine Qf (Qa ?_)
 refine W_cond_f rfl ?_
 refine Qv (Qa ?_)
 refine Qh <|Qi <|Qd (Qe (.pointer (some ⟨bP0_2,0,none⟩)) rfl) ?_
 have k5_0:=GOp.w0 (Zr.zr:rep M2 (Zr.zc GOp) (Zr.zd:GOp)) (ri 2:rep M2 _ _)
 have k5_1:=GOp.w1 k5_0 (ri 1:rep M2 _ _)
 have k5_2:=GOp.w2 k5_1 (ri 4:rep M2 _ _)
 obtain ⟨d6,hd5,hz⟩:=Qb hz
 obtain ⟨cs5,hf5,ha5⟩ : ∃ cs,fillZ (([(0,1),(1,1),(2,1)]:List (Nat × Nat))[·]?) (Zr.zc GOp) [(0,.int .i64 2),(1,.int .i64 1),(2,.int .i64 4)]=some cs∧rep M2 cs d6:=⟨_,(Zb (Zr.zr:rep M2 (Zr.zc GOp) (Zr.zd:GOp)) rfl rfl (Rep.len (ri 2:rep M2 _ _)) (by decide) (Zb k5_0 rfl rfl (Rep.len (ri 1:rep M2 _ _)) (by decide) (Zb k5_1 rfl rfl (Rep.len (ri 4:rep M2 _ _)) (by decide) Z8))),Z9 (x:=({ kind:=2,key:=1,n:=4 }:GOp)) k5_2 hd5⟩
 refine Qd (Zx [(0,.int .i64 2),(1,.int .i64 1),(2,.int .i64 4)] tb65 (Ys rfl (Ys rfl (Ys rfl Vf))) hf5) ?_
 refine Qu (Z0 (α := GOp) (l:=([d6]:List GOp)) [.agg cs5.toArray] tl27 (Ys rfl Vf) rfl rfl (by decide) (by decide) (by decide) hS (K5 ha5 Ji) ?_)
 intro v8 M8 w7 hx8 hv8 hS
 replace f2_0:=Rep.mono hx8.1 f2_0
 replace f2_1:=Zm hx8.1 f2_1
 have k9_0:=GAct.w0 (Zr.zr:rep M8 (Zr.zc GAct) (Zr.zd:GAct)) (ri 1:rep M8 _ _)
 have k9_1:=GAct.w3 k9_0 (Q1 hv8)
 obtain ⟨d10,hd9,hz⟩:=Qb hz
 obtain ⟨cs9,hf9,ha9⟩ : ∃ cs,fillZ (([(0,1),(1,1),(2,1),(3,1)]:List (Nat × Nat))[·]?) (Zr.zc GAct) [(0,.int .i64 1),(3,v8)]=some cs∧rep M8 cs d10:=⟨_,(Zb (Zr.zr:rep M8 (Zr.zc GAct) (Zr.zd:GAct)) rfl rfl (Rep.len (ri 1:rep M8 _ _)) (by decide) (Zb k9_0 rfl (Q9 hv8) (Rep.len (Q1 hv8)) (by decide) Z8)),Z9 (x:=({ kind:=1,n:=Zr.zd,m:=Zr.zd,ops:=([d6]:List GOp) }:GAct)) k9_1 hd9⟩
 refine Qd (Zx [(0,.int .i64 1),(3,v8)] tb43 (Ys rfl (Ys rfl Vf)) hf9) ?_
 obtain ⟨r13,hr12,hz⟩:=Qb hz
 refine Qu (Zw (vs:=[.pointer (some ⟨bP0_2,0,none⟩),.agg cs9.toArray]) (L:=[.box bP0_2 kP0_2 90,.stk uP6_2 9 1 xP6_2]) (R:=[]) (rv:=(fun M' u L' => ∃ c0 k0 u1 x1,u = .agg c0.toArray∧L'=[.box bP0_2 k0 90,.stk u1 9 1 x1]∧rep M' c0 r13.1∧rep M' k0 r13.2.1∧skr M' u1 x1 r13.2.2∧sl k0 1993 1=[u1])) cb19 (Ya rfl rfl) hS (hS.sel [0,1] (by decide) rfl) (fun hS=>clDo_ok hS f2_0 f2_1 f2_2 ha9 hr12) ?_)
 rintro u12 M12 w11 L12 hx12 ⟨c0_12,k0_12,u1_12,x1_12,rfl,hL12,f12_0,f12_1,f12_2,f12_3⟩ hS
 replace hS:=hS _ hL12
 refine Qu (Zf tz40 hS ?_)
 intro b15 w14 hb15 hS
 have zb15:rep M12 (Zr.zc GReply) (Zr.zd:GReply):=Zr.zr
 obtain ⟨d18,hd17,hz⟩:=Qb hz
 refine Qu (Q8 0 3 hS rfl zb15 rfl rfl f12_0 rfl rfl (Lf (rr zb15) f12_0) hd17 ?_)
 intro cs17 w16 hb17 ha17 hs17 hS
 refine Qf (Qa ?_)
 refine Qh <|Qi <|Qd (Qe (.pointer (some ⟨bP0_2,0,none⟩)) rfl) ?_
 have k19_0:=GAct.w0 (Zr.zr:rep M12 (Zr.zc GAct) (Zr.zd:GAct)) (ri 2:rep M12 _ _)
 have k19_1:=GAct.w1 k19_0 (ri 1:rep M12 _ _)
 obtain ⟨d20,hd19,hz⟩:=Qb hz
 obtain ⟨cs19,hf19,ha19⟩ : ∃ cs,fillZ (([(0,1),(1,1),(2,1),(3,1)]:List (Nat × Nat))[·]?) (Zr.zc GAct) [(0,.int .i64 2),(1,.int .i64 1)]=some cs∧rep M12 cs d20:=⟨_,(Zb (Zr.zr:rep M12 (Zr.zc GAct) (Zr.zd:GAct)) rfl rfl (Rep.len (ri 2:rep M12 _ _)) (by decide) (Zb k19_0 rfl rfl (Rep.len (ri 1:rep M12 _ _)) (by decide) Z8)),Z9 (x:=({ kind:=2,n:=1,m:=Zr.zd,ops:=Zr.zd }:GAct)) k19_1 hd19⟩
 refine Qd (Zx [(0,.int .i64 2),(1,.int .i64 1)] tb43 (Ys rfl (Ys rfl Vf)) hf19) ?_
 obtain ⟨r23,hr22,hz⟩:=Qb hz
 refine Qu (Zw (vs:=[.pointer (some ⟨bP0_2,0,none⟩),.agg cs19.toArray]) (L:=[.box bP0_2 k0_12 90,.stk u1_12 9 1 x1_12]) (R:=[.box b15 cs17 40]) (rv:=(fun M' u L' => ∃ c0 k0 u1 x1,u = .agg c0.toArray∧L'=[.box bP0_2 k0 90,.stk u1 9 1 x1]∧rep M' c0 r23.1∧rep M' k0 r23.2.1∧skr M' u1 x1 r23.2.2∧sl k0 1993 1=[u1])) cb19 (Ya rfl rfl) hS (hS.sel [1,2,0] (by decide) rfl) (fun hS=>clDo_ok hS f12_1 f12_2 f12_3 ha19 hr22) ?_)
 rintro u22 M22 w21 L22 hx22 ⟨c0_22,k0_22,u1_22,x1_22,rfl,hL22,f22_0,f22_1,f22_2,f22_3⟩ hS
 replace hS:=hS _ hL22
 refine Qu (Zf tz40 hS ?_)
 intro b25 w24 hb25 hS
 have zb25:rep M22 (Zr.zc GReply) (Zr.zd:GReply):=Zr.zr
 obtain ⟨d28,hd27,hz⟩:=Qb hz
 refine Qu (Q8 0 3 hS rfl zb25 rfl rfl f22_0 rfl rfl (Lf (rr zb25) f22_0) hd27 ?_)
 intro cs27 w26 hb27 ha27 hs27 hS
 refine Qf (Qa ?_)
 refine Qh <|Qi <|Qd (Qe (.pointer (some ⟨bP0_2,0,none⟩)) rfl) ?_
 obtain ⟨r31,hr30,hz⟩:=Qb hz
 refine Qu (Zw (vs:=[.pointer (some ⟨bP0_2,0,none⟩),.int .i64 4]) (L:=[.box bP0_2 k0_22 90]) (R:=[.box b25 cs27 40,.stk u1_22 9 1 x1_22,.box b15 cs17 40]) (rv:=(fun M' u L' => ∃ c0,u = .tuple #[.agg c0.toArray,.bool r31.2]∧L'=[.box bP0_2 k0_22 90]∧rep M' c0 r31.1)) cb17 (Ya rfl rfl) hS (hS.sel [1,0,2,3] (by decide) rfl) (fun hS=>clNode_ok hS f22_1 hr30) ?_)
 rintro u30 M30 w29 L30 hx30 ⟨c0_30,rfl,hL30,f30_0⟩ hS
 replace hS:=hS _ hL30
 replace hb17:=Rep.mono (hx22.1.trans hx30.1) hb17
 replace f22_1:=Rep.mono hx30.1 f22_1
 replace f22_2:=Zm hx30.1 f22_2
 replace hb27:=Rep.mono hx30.1 hb27
 refine Qd (Qe (.tuple #[.agg c0_30.toArray,.bool r31.2]) rfl) <|Qd (Zc (v := .agg c0_30.toArray) rfl rfl) <|Qd (Zc (v := .bool r31.2) rfl rfl) ?_
 refine Qu (Zf tz34 hS ?_)
 intro b33 w32 hb33 hS
 have zb33:rep M30 (Zr.zc GNode) (Zr.zd:GNode):=Zr.zr
 obtain ⟨d36,hd35,hz⟩:=Qb hz
 refine Qu (Q8 0 201 hS rfl zb33 rfl rfl f30_0 rfl rfl (Lf (rr zb33) f30_0) hd35 ?_)
 intro cs35 w34 hb35 ha35 hs35 hS
 refine Qd (Qj (.bool r31.2) rfl) ?_
 refine Qf (Qa ?_)
 refine Qz (fun T' w' => ∃ M38 cs40 d41 v42 xs43 l44 c47,Mm.ext w.heap.size noX M30 M38∧St w noX M38 [.box b33 cs35 34,.box bP0_2 cs40 90,.box b25 cs27 40,.stk v42 9 1 xs43,.box b15 cs17 40] w'∧rep M38 cs40 d41∧skr M38 v42 xs43 l44∧sl cs40 (0+1993) 1=[v42]∧T' 0 = .bool c47∧alive_j1 d41 l44 c47=some r) ?_ ?_
 have hF49:=Qg w.heap.size noX M30
 refine Qi <|Qd (Qp fa40_0 rfl) <|Qd (Ql (.int .i64 d18.code) ts38 rfl (hS.bvB 4 rfl) (GReply.p0 (rr hb17))) <|Qd (Yc rfl rfl) <|Qd (Qe (.bool (d18.code==0)) rfl) ?_
 rcases ic hz with ⟨hc50,hz⟩ | ⟨hc50,hz⟩<;>rw [hc50]
 refine Qk rfl rfl (Qp fa40_0 rfl) <|Qk rfl rfl (Ql (.int .i64 d28.code) ts38 rfl (hS.bvB 2 rfl) (GReply.p0 (rr hb27))) <|Qk rfl rfl (Yc rfl rfl) <|Q2 2 rfl ?_
 rcases ic hz with ⟨hc51,hz⟩ | ⟨hc51,hz⟩<;>rw [hc51]
 refine Qk rfl rfl (Qe (.pointer (some ⟨bP0_2,0,none⟩)) rfl) ?_
 obtain ⟨r54,hr53,hz⟩:=Qb hz
 refine Km rfl rfl (Zw (vs:=[.pointer (some ⟨bP0_2,0,none⟩)]) (L:=[.box bP0_2 k0_22 90,.stk u1_22 9 1 x1_22]) (R:=[.box b33 cs35 34,.box b25 cs27 40,.box b15 cs17 40]) (rv:=(fun M' u L' => ∃ v0 u1 x1,u=v0∧L'=[.box bP0_2 k0_22 90,.stk u1 9 1 x1]∧repL M' v0 r54.1∧skr M' u1 x1 r54.2∧sl k0_22 1993 1=[u1])) cb32 (Zu rfl) hS (hS.sel [1,3,0,2,4] (by decide) rfl) (fun hS=>clNet_ok hS f22_1 f22_2 f22_3 hr53) ?_)
 rintro u53 M53 w52 L53 hx53 ⟨v0_53,u1_53,x1_53,rfl,hL53,f53_0,f53_1,f53_2⟩ hS
 replace hS:=hS _ hL53
 replace f22_1:=Rep.mono hx53.1 f22_1
 replace hb35:=Rep.mono hx53.1 hb35
 replace hF49:=Qc hF49 hx53
 obtain ⟨a55,c55,hv55,_⟩:=Q3 f53_0
 refine Qk rfl rfl (Zk Vl (Vw hv55 rfl)) <|Qk rfl rfl (Yc rfl rfl) <|Q2 2 rfl ?_
 rcases ic hz with ⟨hc56,hz⟩ | ⟨hc56,hz⟩<;>rw [hc56]
 refine Qk rfl rfl (Qp Kk rfl) <|Qk rfl rfl (Za ia31 rfl rfl (by decide) (by decide)) <|Qk rfl rfl (Qp Y9 rfl) ?_
 obtain ⟨x57,hx58,hz⟩:=Qb hz
 refine Qk rfl rfl (Ql (.int .i64 x57.state) Z5 rfl (hS.bvB 2 rfl) (Yf (vp (k:=6) rfl rfl (Q5 (rr hb35)) hx58))) <|Qk rfl rfl (Yc rfl rfl) <|Q2 2 rfl ?_
 refine Qf (Qa ?_)
 exact ⟨M53,k0_22,r23.2.1,u1_53,x1_53,r54.2,(x57.state==1),hF49,(hS.sel (H':=[.box b33 cs35 34,.box bP0_2 k0_22 90,.box b25 cs27 40,.stk u1_53 9 1 x1_53,.box b15 cs17 40]) [2,0,3,1,4] (by decide) rfl),f22_1,f53_1,f53_2,rfl,hz⟩
 refine Q2 7 rfl ?_
 refine Qf (Qa ?_)
 exact ⟨M53,k0_22,r23.2.1,u1_53,x1_53,r54.2,false,hF49,(hS.sel (H':=[.box b33 cs35 34,.box bP0_2 k0_22 90,.box b25 cs27 40,.stk u1_53 9 1 x1_53,.box b15 cs17 40]) [2,0,3,1,4] (by decide) rfl),f22_1,f53_1,f53_2,rfl,hz⟩
 refine Q2 13 rfl ?_
 refine Qf (Qa ?_)
 exact ⟨M30,k0_22,r23.2.1,u1_22,x1_22,r23.2.2,false,hF49,hS,f22_1,f22_2,f22_3,rfl,hz⟩
 refine Q2 18 rfl ?_
 refine Qf (Qa ?_)
 exact ⟨M30,k0_22,r23.2.1,u1_22,x1_22,r23.2.2,false,hF49,hS,f22_1,f22_2,f22_3,rfl,hz⟩
 rintro T39 w37 ⟨M38,cs40,d41,v42,xs43,l44,c47,hx48,hS,hb40,hk45,hp46,hT39_0,hz⟩
 rw [alive_j1] at hz
 cases hz
 exact Q4 (Yj rfl hT39_0 ⟨rfl,(Qm (Qm (Qm (Qm (Qm hS))))).kept⟩)
def topWay_l1 (x1:GCase) (x2:GCase):Nat→Int→Option Bool
 | 0,_=>none
 | n+1,y10 =>
 (bif decide (y10<2) then
 (some (conflictZ x1.ops x2.ops y10)).bind fun r20 =>
 (bif r20 then
 some true
 else
 (topWay_l1 x1 x2 n) (IntKind.wrap .i64 (y10+1)))
 else
 some false)
def topWayD (fu:Nat) (x1:GCase) (x2:GCase):Option Bool :=
 topWay_l1 x1 x2 fu 0
set_option maxRecDepth 100000 in
set_option maxHeartbeats 4000000 in
theorem topWay_ok {M:Mm} {w:World} {cx1:List Value} {cx2:List Value} {x1:GCase} {x2:GCase} {fu:Nat} {r:Bool} (hA:Agree M w) (hcx1:rep M cx1 x1) (hcx2:rep M cx2 x2) (hz:topWayD fu x1 x2=some r) :
    Calls Try.prog 21 #[.agg cx1.toArray,.agg cx2.toArray] w (GivesV w (.bool r)):=by
 refine Zh Try.func21 rfl 16 rfl rfl (by kernel_rfl) fun T hT => ?_
 have hT_0:T 0 = .agg cx1.toArray:=hT 0
 have hT_1:T 1 = .agg cx2.toArray:=hT 1
 clear hT
 have hE:=Qg w.heap.size noX M
 have hS:St w noX M [] w:=Zv hA
 rw [topWayD] at hz
 refine Qh <|Qi ?_
 refine Qu (Yo (v := .agg cx1.toArray) (cs:=cx1) hT_0 rfl hS ?_)
 intro b4 w3 hb4 hS
 refine Qu (Yo (v := .agg cx2.toArray) (cs:=cx2) hT_1 rfl hS ?_)
 intro b6 w5 hb6 hS
 refine Qd (Qj (.bool false) rfl) ?_
 refine Qf (Qa ?_)
 refine Qh <|Qh <|Qi <|Qd (Qe (.int .i64 0) rfl) ?_
 refine Qf (Qa ?_)
 refine Qy ?_
 refine Zy (fun k12 T' w' => ∃ M8 y10,Mm.ext w.heap.size noX M M8∧St w noX M8 [.box b6 cx2 49,.box b4 cx1 49] w'∧T' 2 = .pointer (some ⟨b4,0,none⟩)∧T' 3 = .pointer (some ⟨b6,0,none⟩)∧T' 6 = .int .i64 y10∧topWay_l1 x1 x2 k12 y10=some r) fu ?_ ?_ ?_
 exact ⟨M,(0:Int),(Qg _ _ _),hS,rfl,rfl,rfl,hz⟩
 rintro T' w' ⟨_,_,_,_,_,_,_,hz⟩
 rw [topWay_l1] at hz
 cases hz
 intro k12
 rintro T9 w7 ⟨M8,y10,hx14,hS,hT9_2,hT9_3,hT9_6,hz⟩
 replace hcx1:=Rep.mono hx14.1 hcx1
 replace hcx2:=Rep.mono hx14.1 hcx2
 have hF13:=hx14
 rw [topWay_l1] at hz
 obtain ⟨rec11,hrec11⟩ : ∃ f,f=topWay_l1 x1 x2 k12:=⟨_,rfl⟩
 rw [← hrec11] at hz
 refine Qh <|Qi <|Qd (Zq hT9_6 rfl) ?_
 refine Qf (Qa ?_)
 refine Qh ?_
 refine Qr rfl (fun hc15 => ?_) (fun hc15 => ?_)
 replace hz:=Qn hz hc15
 refine Qv (Qa ?_)
 refine Qh <|Qy <|Qh <|Qi <|Qd (Qe (.int .i64 y10) hT9_6) <|Qd (Qj (.int .i64 y10) rfl) ?_
 refine Qf (Qa ?_)
 refine Qh <|Qi <|Qd (Qp Vy hT9_2) ?_
 obtain ⟨v16,ev16,hv16⟩:=(Yw (rr hcx1))
 refine Qd (Ql v16 Vn rfl (hS.bvB 1 rfl) ev16) <|Qd (Qp Vy hT9_3) ?_
 obtain ⟨v17,ev17,hv17⟩:=(Yw (rr hcx2))
 refine Qd (Ql v17 Vn rfl (hS.bvB 0 rfl) ev17) <|Qd (Qe (.int .i64 y10) rfl) ?_
 obtain ⟨r20,hr19,hz⟩:=Qb hz
 replace hr19:=Option.some.inj hr19
 refine Qu (Z4 (vs:=[v16,v17,.int .i64 y10]) (v := .bool r20) cb54 (Jj rfl rfl rfl) hS (hr19 ▸ (c_conflict hS.agree hv16 hv17)) ?_)
 intro w18 hS
 refine Qf (Qa ?_)
 refine Qr rfl (fun hc21 => ?_) (fun hc21 => ?_)
 replace hz:=Qn hz hc21
 refine Qh <|Qi <|Qd (Qj (.bool true) rfl) ?_
 refine Qf (Qa ?_)
 cases hz
 exact Q4 (Zi (Qs (Qs (Zi (Qs (Yj rfl rfl ⟨rfl,(Qm (Qm hS)).kept⟩))))))
 replace hz:=Qo hz hc21
 refine Qv (Q7 ?_)
 refine (Qa ?_)
 refine Qi <|Qd (Zz hT9_6 rfl) <|Qd (Qe (.int .i64 (IntKind.wrap .i64 (y10+1))) rfl) ?_
 refine Qf (Qa ?_)
 exact ⟨M8,(IntKind.wrap .i64 (y10+1)),hF13,hS,hT9_2,hT9_3,rfl,(by rw [← hrec11];exact hz)⟩
 replace hz:=Qo hz hc15
 refine Zs <|Q0 <|Q0 <|Zt ?_
 refine (Qa ?_)
 refine Qh <|Qi <|Qd (Qj (.bool false) rfl) ?_
 refine Qf (Qa ?_)
 cases hz
 exact Q4 (Yj rfl rfl ⟨rfl,(Qm (Qm hS)).kept⟩)
def topPlaces_j1 (y15:Int) (rec16:(Vector Int 32)→Int→Option (Vector Int 32)) (d25:Vector Int 32):Option (Vector Int 32) :=
 rec16 d25 (IntKind.wrap .i64 (y15+1))
def topPlaces_j2 (d14:Vector Int 32) (y15:Int) (rec16:(Vector Int 32)→Int→Option (Vector Int 32)) (x29:Int) (c33:Bool):Option (Vector Int 32) :=
 (bif c33 then
 (inR x29 32).bind fun _ =>
 (idxV d14 x29).bind fun x40 =>
 (setV d14 x29 (IntKind.wrap .i64 (y15+1))).bind fun a42 =>
 (some a42).bind fun d44 =>
 topPlaces_j1 y15 rec16 d44
 else
 topPlaces_j1 y15 rec16 d14)
def topPlaces_l1 (x1:GNode):Nat→(Vector Int 32)→Int→Option (Vector Int 32)
 | 0,_,_=>none
 | n+1,d14,y15 =>
 (bif decide (y15<(x1.order.length:Int)) then
 (idx x1.order y15).bind fun x29 =>
 (bif decide (x29≥0) then
 topPlaces_j2 d14 y15 (topPlaces_l1 x1 n) x29 (decide (x29<32))
 else
 topPlaces_j2 d14 y15 (topPlaces_l1 x1 n) x29 false)
 else
 (some d14).bind fun d50 =>
 some d50)
def topPlacesD (fu:Nat) (x1:GNode):Option (Vector Int 32) :=
 topPlaces_l1 x1 fu (Zr.zd:Vector Int 32) 0
set_option maxRecDepth 100000 in
set_option maxHeartbeats 4000000 in
theorem topPlaces_ok {M:Mm} {w:World} {cx1:List Value} {x1:GNode} {fu:Nat} {r:(Vector Int 32)} (hA:Agree M w) (hcx1:rep M cx1 x1) (hz:topPlacesD fu x1=some r) :
    Calls Try.prog 24 #[.agg cx1.toArray] w (Gives M w (fun M' u => ∃ cs,u = .agg cs.toArray∧rep M' cs r)):=by
 refine Zh Try.func24 rfl 26 rfl rfl (by kernel_rfl) fun T hT => ?_
 have hT_0:T 0 = .agg cx1.toArray:=hT 0
 clear hT
 have hE:=Qg w.heap.size noX M
 have hS:St w noX M [] w:=Zv hA
 rw [topPlacesD] at hz
 refine Qh <|Qi ?_
 refine Qu (Yo (v := .agg cx1.toArray) (cs:=cx1) hT_0 rfl hS ?_)
 intro b3 w2 hb3 hS
 refine Qu (Zf tz56 hS ?_)
 intro b5 w4 hb5 hS
 have zb5:rep M (Zr.zc (Vector Int 32)) (Zr.zd:Vector Int 32):=Zr.zr
 refine Qf (Qa ?_)
 refine Qh <|Qi ?_
 refine Qu (Zf tz56 hS ?_)
 intro b7 w6 hb7 hS
 have zb7:rep M (Zr.zc (Vector Int 32)) (Zr.zd:Vector Int 32):=Zr.zr
 refine Qf (Qa ?_)
 refine Qh <|Qh <|Qi <|Qd (Qp K0 rfl) ?_
 obtain ⟨v8,ev8,hv8⟩:=(Vz (rr hcx1))
 refine Qd (Ql v8 Z2 rfl (hS.bvB 2 rfl) ev8) ?_
 obtain ⟨a9,c9,hv9,_⟩:=Q3 hv8
 refine Qd (Zk Qq (Vw hv9 rfl)) <|Qd (Qe (.int .i64 0) rfl) ?_
 refine Qf (Qa ?_)
 refine Qy ?_
 refine Zy (fun k17 T' w' => ∃ M11 cs13 d14 y15,Mm.ext w.heap.size noX M M11∧St w noX M11 [.box b7 cs13 56,.box b5 (Zr.zc (Vector Int 32)) 56,.box b3 cx1 34] w'∧rep M11 cs13 d14∧T' 2 = .pointer (some ⟨b5,0,none⟩)∧T' 3 = .pointer (some ⟨b7,0,none⟩)∧T' 7=v8∧T' 8 = .int .i64 (x1.order.length:Int)∧T' 9 = .int .i64 y15∧topPlaces_l1 x1 k17 d14 y15=some r) fu ?_ ?_ ?_
 exact ⟨M,(Zr.zc (Vector Int 32)),(Zr.zd:Vector Int 32),(0:Int),(Qg _ _ _),hS,zb7,rfl,rfl,rfl,rfl,rfl,hz⟩
 rintro T' w' ⟨_,_,_,_,_,_,_,_,_,_,_,_,hz⟩
 rw [topPlaces_l1] at hz
 cases hz
 intro k17
 rintro T12 w10 ⟨M11,cs13,d14,y15,hx19,hS,hb13,hT12_2,hT12_3,hT12_7,hT12_8,hT12_9,hz⟩
 replace zb5:=Rep.mono hx19.1 zb5
 replace hv8:=Qw hx19.1 hv8
 replace hE:=Qc hE hx19
 have hF18:=hx19
 rw [topPlaces_l1] at hz
 obtain ⟨rec16,hrec16⟩ : ∃ f,f=topPlaces_l1 x1 k17:=⟨_,rfl⟩
 rw [← hrec16] at hz
 refine Qh <|Qi <|Qd (Zq hT12_9 hT12_8) ?_
 refine Qf (Qa ?_)
 refine Qh ?_
 refine Qr rfl (fun hc20 => ?_) (fun hc20 => ?_)
 replace hz:=Qn hz hc20
 refine Qv (Qa ?_)
 refine Qz (fun T' w' => ∃ M22 cs24 d25,Mm.ext w.heap.size noX M11 M22∧St w noX M22 [.box b7 cs24 56,.box b5 (Zr.zc (Vector Int 32)) 56,.box b3 cx1 34] w'∧rep M22 cs24 d25∧T' 2 = .pointer (some ⟨b5,0,none⟩)∧T' 3 = .pointer (some ⟨b7,0,none⟩)∧T' 7=v8∧T' 8 = .int .i64 (x1.order.length:Int)∧T' 9 = .int .i64 y15∧topPlaces_j1 y15 rec16 d25=some r) ?_ ?_
 have hF27:=Qg w.heap.size noX M11
 refine Qy <|Qh <|Qi <|Qd (Qe (.int .i64 y15) hT12_9) ?_
 obtain ⟨x29,hx28,hz⟩:=Qb hz
 obtain ⟨b28,o28,c28,p28,hv28,hi28,hj28,hM28,hr28⟩:=Yd hv8 hx28
 replace hr28:rep _ (sl p28 (o28+Int.toNat y15*1) 1) x29:=hr28
 refine Qd (Yq V6 hT12_7 hv28 hT12_9 hi28 hj28) <|Qd (Ql (.int .i64 x29) Z5 rfl (hS.bvM hM28) hr28) <|Q2 2 rfl ?_
 refine Qf (Qa ?_)
 refine Qz (fun T' w' => ∃ M31 c33,Mm.ext w.heap.size noX M11 M31∧St w noX M31 [.box b7 cs13 56,.box b5 (Zr.zc (Vector Int 32)) 56,.box b3 cx1 34] w'∧T' 2 = .pointer (some ⟨b5,0,none⟩)∧T' 3 = .pointer (some ⟨b7,0,none⟩)∧T' 4 = .int .i64 y15∧T' 5 = .int .i64 x29∧T' 7=v8∧T' 8 = .int .i64 (x1.order.length:Int)∧T' 9 = .int .i64 y15∧T' 19 = .bool c33∧topPlaces_j2 d14 y15 rec16 x29 c33=some r) ?_ ?_
 have hF45:=Qg w.heap.size noX M11
 refine Qi <|Qd (Qe (.int .i64 x29) rfl) <|Qd (Va rfl rfl) <|Qd (Qe (.bool (decide (x29≥0))) rfl) ?_
 rcases ic hz with ⟨hc46,hz⟩ | ⟨hc46,hz⟩<;>rw [hc46]
 refine Qk rfl rfl (Qe (.int .i64 x29) rfl) <|Qk rfl rfl (Zq rfl rfl) <|Qd (Zp (.bool (decide (x29<32))) rfl rfl) ?_
 refine Qf (Qa ?_)
 exact ⟨M11,(decide (x29<32)),hF45,hS,hT12_2,hT12_3,rfl,rfl,hT12_7,hT12_8,hT12_9,rfl,hz⟩
 refine Q2 3 rfl ?_
 refine Qf (Qa ?_)
 exact ⟨M11,false,hF45,hS,hT12_2,hT12_3,rfl,rfl,hT12_7,hT12_8,hT12_9,rfl,hz⟩
 rintro T32 w30 ⟨M31,c33,hx34,hS,hT32_2,hT32_3,hT32_4,hT32_5,hT32_7,hT32_8,hT32_9,hT32_19,hz⟩
 replace hb13:=Rep.mono hx34.1 hb13
 replace hF27:=Qc hF27 hx34
 rw [topPlaces_j2] at hz
 refine Qr hT32_19 (fun hc35 => ?_) (fun hc35 => ?_)
 replace hz:=Qn hz hc35
 refine Qi <|Qd (Qe (.int .i64 x29) hT32_5) <|Qd (Qe (.int .i64 y15) hT32_4) <|Qd (Zz rfl rfl) ?_
 obtain ⟨u36,hx37,hz⟩:=Qb hz
 obtain ⟨hx37a,hx37b⟩:=Qt hx37
 refine Qd (Za V1 hT32_3 rfl hx37a hx37b) ?_
 obtain ⟨x40,hx41,hz⟩:=Qb hz
 obtain ⟨a42,hx43,hz⟩:=Qb hz
 obtain ⟨d44,hd39,hz⟩:=Qb hz
 refine Qu (Q8 0 1 hS rfl hb13 rfl rfl (ri (IntKind.wrap .i64 (y15+1)):rep M31 _ _) rfl rfl (vu (k:=1) rfl rfl (rr hb13) (Lf (vp (k:=1) rfl rfl (rr hb13) hx41) (ri (IntKind.wrap .i64 (y15+1)):rep M31 _ _)) hx43) hd39 ?_)
 intro cs39 w38 hb39 ha39 hs39 hS
 refine Qf (Q7 ?_)
 refine (Qa ?_)
 exact ⟨M31,cs39,d44,hF27,hS,hb39,hT32_2,hT32_3,hT32_7,hT32_8,hT32_9,hz⟩
 replace hz:=Qo hz hc35
 refine Qv (Q7 ?_)
 refine (Qa ?_)
 exact ⟨M31,cs13,d14,hF27,hS,hb13,hT32_2,hT32_3,hT32_7,hT32_8,hT32_9,hz⟩
 rintro T23 w21 ⟨M22,cs24,d25,hx26,hS,hb24,hT23_2,hT23_3,hT23_7,hT23_8,hT23_9,hz⟩
 replace hF18:=Qc hF18 hx26
 rw [topPlaces_j1] at hz
 refine Qi <|Qd (Zz hT23_9 rfl) <|Qd (Qe (.int .i64 (IntKind.wrap .i64 (y15+1))) rfl) ?_
 refine Qf (Qa ?_)
 exact ⟨M22,cs24,d25,(IntKind.wrap .i64 (y15+1)),hF18,hS,hb24,hT23_2,hT23_3,hT23_7,hT23_8,rfl,(by rw [← hrec16];exact hz)⟩
 replace hz:=Qo hz hc20
 refine Zs <|Q0 <|Q0 <|Zt ?_
 refine (Qa ?_)
 refine Qh <|Qi ?_
 have ha47:=(rr hb13)
 refine Qd (Zg ta56 hT12_3 (hS.bvB 0 rfl) (Rep.len ha47)) ?_
 obtain ⟨d50,hd49,hz⟩:=Qb hz
 refine Qu (Q8 1 32 hS rfl zb5 hT12_2 rfl ha47 rfl rfl (Lf (rr zb5) ha47) hd49 ?_)
 intro cs49 w48 hb49 ha49 hs49 hS
 refine Qf (Qa ?_)
 cases hz
 exact Q4 (Jp (j:=1) rfl hT12_2 (by rw [Rep.len hb49];exact ta56) hS rfl (Zj (Qm (Qm (Qm hS))) hE ⟨_,rfl,hb49⟩))
end Go.Proofs.Yteilffoclpgijaa
namespace Go.Proofs.Yteilffoclpgijaa
open Go.RowKit
open Rep (rep)
section
variable {P:Program} {S:World→Prop} {n:Nat} {Q:Exit→Tm→World→Prop} {T:Tm} {w w0:World} {X:Nat→Prop} {M:Mm} {H:List Ent} {K:Tm→World→Prop} {dst:Option Tmp} {ty:TypeId} {pos:String} {af:Array Edge} {g:Option (Nat × Bool)}
theorem Y_mf {f:FuncId} {cap:List Operand} {vs:List Value} (h:cap.map (evT T)=vs):YV P S T ⟨dst,.makeFunc (.func f) #[] cap.toArray,ty,pos,af,g⟩ (.func (.func f) #[] vs.toArray):=by
  intro w _
  subst h
  simp [execOp,Instr.makeFunc]
theorem OW_clo {f:FuncId} {x:Operand} {args:List Operand} {cap:List Value} {ats:Array TypeId} {Kt:Prop} (hx:evT T x = .func (.func f) #[] cap.toArray) (h:Kt→OW P n Q ⟨dst,.call ⟨.value (.func f),(args++cap.map Operand.const).toArray,ats⟩,ty,pos,af,g⟩ T w K) (k:Kt) :
    OW P n Q ⟨dst,.call ⟨.value x,args.toArray,ats⟩,ty,pos,af,g⟩ T w K:=by
  intro hok a ha
  have h1:=h k hok a ha
  unfold Oper.wp at h1 ⊢
  have e:execOp a.eval ⟨dst,.call ⟨.value x,args.toArray,ats⟩,ty,pos,af,g⟩=execOp a.eval ⟨dst,.call ⟨.value (.func f),(args++cap.map Operand.const).toArray,ats⟩,ty,pos,af,g⟩:=by
    rw [ha.eval]
    have hc:(cap.map Operand.const).map (evT T)=cap:=by
      rw [List.map_map]
      exact List.map_id _
    have ev:evT T (.func f) = .func (.func f) #[] #[]:=rfl
    simp [execOp,resolve,hx,ev,Deferred.ofValue,invoke,List.map_append,hc]
  rw [e]
  exact h1
theorem args3c {x y z:Operand} {v u t:Value} {cap:List Value} (h:evT T x=v) (h':evT T y=u) (h'':evT T z=t):(([x,y,z]:List Operand)++cap.map Operand.const).map (evT T)=v::u::t::cap:=by
  have hc:(cap.map Operand.const).map (evT T)=cap:=by
    rw [List.map_map]
    exact List.map_id _
  rw [List.map_append,hc]
  simp [h,h',h'']
end
end Go.Proofs.Yteilffoclpgijaa
namespace Go.Proofs.Yteilffoclpgijaa
open Go.RowKit
open Rep (rep)
set_option linter.unusedVariables false
def topSameF_j1 (d17:GCluster) (d19:Vector Int 6) (d21:List (Vector Int 32)) (l24:List ByteArray):Option (Bool × GCluster × (List ByteArray) × (Vector Int 6) × (List (Vector Int 32))) :=
 some (true,d17,l24,d19,d21)
def topSameF_j3 (y53:Int) (rec54:GCluster→(Vector Int 6)→(List (Vector Int 32))→(List ByteArray)→Int→Option (Bool × GCluster × (List ByteArray) × (Vector Int 6) × (List (Vector Int 32)))) (d63:GCluster) (d65:Vector Int 6) (d67:List (Vector Int 32)) (l70:List ByteArray):Option (Bool × GCluster × (List ByteArray) × (Vector Int 6) × (List (Vector Int 32))) :=
 rec54 d63 d65 d67 l70 (IntKind.wrap .i64 (y53+1))
def topSameF_j4 (d41:GCluster) (d43:Vector Int 6) (l48:List ByteArray) (y53:Int) (rec54:GCluster→(Vector Int 6)→(List (Vector Int 32))→(List ByteArray)→Int→Option (Bool × GCluster × (List ByteArray) × (Vector Int 6) × (List (Vector Int 32)))) (d84:GNode) (d89:List (Vector Int 32)):Option (Bool × GCluster × (List ByteArray) × (Vector Int 6) × (List (Vector Int 32))) :=
 (inR y53 6).bind fun _ =>
 (idxV d43 y53).bind fun x99 =>
 (setV d43 y53 (d84.order.length:Int)).bind fun a101 =>
 (some a101).bind fun d103 =>
 topSameF_j3 y53 rec54 d41 d103 d89 l48
def topSameF_l1 (fu:Nat):Nat→GCluster→(Vector Int 6)→(List (Vector Int 32))→(List ByteArray)→Int→Option (Bool × GCluster × (List ByteArray) × (Vector Int 6) × (List (Vector Int 32)))
 | 0,_,_,_,_,_=>none
 | n+1,d41,d43,d45,l48,y53 =>
 (bif decide (y53<6) then
 (clNodeD fu d41 y53).bind fun r79 =>
 (some r79.1).bind fun d84 =>
 (inR y53 6).bind fun _ =>
 (idxV d43 y53).bind fun x109 =>
 (bif (d84.order.length:Int) != x109 then
 (topPlacesD fu d84).bind fun r120 =>
 (app d45 ([r120]:List (Vector Int 32))).bind fun l127 =>
 (some l127).bind fun d131 =>
 topSameF_j4 d41 d43 l48 y53 (topSameF_l1 fu n) d84 d131
 else
 topSameF_j4 d41 d43 l48 y53 (topSameF_l1 fu n) d84 d45)
 else
 topSameF_j1 d41 d43 d45 l48)
def topSameF_j2 (fu:Nat) (x1:GCluster) (l3:List ByteArray) (x6:Vector Int 6) (x7:List (Vector Int 32)) (c34:Bool):Option (Bool × GCluster × (List ByteArray) × (Vector Int 6) × (List (Vector Int 32))) :=
 (bif c34 then
 topSameF_l1 fu fu x1 x6 x7 l3 0
 else
 topSameF_j1 x1 x6 x7 l3)
def topSameFD (fu:Nat) (x1:GCluster) (l3:List ByteArray) (x4:GAct) (x5:GReply) (x6:Vector Int 6) (x7:List (Vector Int 32)):Option (Bool × GCluster × (List ByteArray) × (Vector Int 6) × (List (Vector Int 32))) :=
 (bif x4.kind==2 then
 topSameF_j2 fu x1 l3 x6 x7 true
 else
 topSameF_j2 fu x1 l3 x6 x7 (x4.kind==3))
set_option maxRecDepth 100000 in
set_option maxHeartbeats 4000000 in
theorem topSameF_ok {M:Mm} {w:World} {bx1:Nat} {cx1:List Value} {ux1_6:Value} {xsx1_6:List Value} {cx4:List Value} {cx5:List Value} {bx6:Nat} {cx6:List Value} {bx7:Nat} {cx7:List Value} {ux7_w:Value} {x1:GCluster} {l3:List ByteArray} {x4:GAct} {x5:GReply} {x6:Vector Int 6} {x7:List (Vector Int 32)} {fu:Nat} {r:Bool × GCluster × (List ByteArray) × (Vector Int 6) × (List (Vector Int 32))} (hS:St w (lentX [.box bx1 cx1 90,.stk ux1_6 9 1 xsx1_6,.box bx6 cx6 55,.box bx7 cx7 54,.row ux7_w 56 32]) M [.box bx1 cx1 90,.stk ux1_6 9 1 xsx1_6,.box bx6 cx6 55,.box bx7 cx7 54,.row ux7_w 56 32] w) (hcx1:rep M cx1 x1) (hkx1_6:skr M ux1_6 xsx1_6 l3) (hpx1_6:sl cx1 1993 1=[ux1_6]) (hcx4:rep M cx4 x4) (hcx5:rep M cx5 x5) (hcx6:rep M cx6 x6) (hcx7:rep M cx7 x7) (hpx7_w:sl cx7 0 1=[ux7_w]) (hz:topSameFD fu x1 l3 x4 x5 x6 x7=some r) :
    Calls Try.prog 23 #[.pointer (some ⟨bx1,0,none⟩),.agg cx4.toArray,.agg cx5.toArray,.pointer (some ⟨bx6,0,none⟩),.pointer (some ⟨bx7,0,none⟩)] w (GivesL M w [.box bx1 cx1 90,.stk ux1_6 9 1 xsx1_6,.box bx6 cx6 55,.box bx7 cx7 54,.row ux7_w 56 32] (fun M' u L' => ∃ k0 u1 x1 k2 k3 u4,u = .bool r.1∧L'=[.box bx1 k0 90,.stk u1 9 1 x1,.box bx6 k2 55,.box bx7 k3 54,.row u4 56 32]∧rep M' k0 r.2.1∧skr M' u1 x1 r.2.2.1∧sl k0 1993 1=[u1]∧rep M' k2 r.2.2.2.1∧rep M' k3 r.2.2.2.2∧sl k3 0 1=[u4])):=by
 refine Zh Try.func23 rfl 47 rfl rfl (by kernel_rfl) fun T hT => ?_
 have hT_0:T 0 = .pointer (some ⟨bx1,0,none⟩):=hT 0
 have hT_1:T 1 = .agg cx4.toArray:=hT 1
 have hT_2:T 2 = .agg cx5.toArray:=hT 2
 have hT_3:T 3 = .pointer (some ⟨bx6,0,none⟩):=hT 3
 have hT_4:T 4 = .pointer (some ⟨bx7,0,none⟩):=hT 4
 clear hT
 have hE:=Qg w.heap.size (lentX [.box bx1 cx1 90,.stk ux1_6 9 1 xsx1_6,.box bx6 cx6 55,.box bx7 cx7 54,.row ux7_w 56 32]) M
 rw [topSameFD] at hz
 refine Qh <|Qi ?_
 refine Qu (Yo (v := .agg cx4.toArray) (cs:=cx4) hT_1 rfl hS ?_)
 intro b10 w9 hb10 hS
 refine Qu (Yo (v := .agg cx5.toArray) (cs:=cx5) hT_2 rfl hS ?_)
 intro b12 w11 hb12 hS
 refine Qd (Qj (.bool false) rfl) ?_
 refine Qf (Qa ?_)
 refine Qz (fun T' w' => ∃ M14 cs16 d17 cs18 d19 cs20 d21 v22 xs23 l24 v27,Mm.ext w.heap.size (lentX [.box bx1 cx1 90,.stk ux1_6 9 1 xsx1_6,.box bx6 cx6 55,.box bx7 cx7 54,.row ux7_w 56 32]) M M14∧St w (lentX [.box bx1 cx1 90,.stk ux1_6 9 1 xsx1_6,.box bx6 cx6 55,.box bx7 cx7 54,.row ux7_w 56 32]) M14 [.box b12 cx5 40,.box b10 cx4 43,.box bx1 cs16 90,.stk v22 9 1 xs23,.box bx6 cs18 55,.box bx7 cs20 54,.row v27 56 32] w'∧rep M14 cs16 d17∧rep M14 cs18 d19∧rep M14 cs20 d21∧skr M14 v22 xs23 l24∧sl cs16 (0+1993) 1=[v22]∧sl cs20 (0+0) 1=[v27]∧topSameF_j1 d17 d19 d21 l24=some r) ?_ ?_
 have hF30:=Qg w.heap.size (lentX [.box bx1 cx1 90,.stk ux1_6 9 1 xsx1_6,.box bx6 cx6 55,.box bx7 cx7 54,.row ux7_w 56 32]) M
 refine Qz (fun T' w' => ∃ M32 c34,Mm.ext w.heap.size (lentX [.box bx1 cx1 90,.stk ux1_6 9 1 xsx1_6,.box bx6 cx6 55,.box bx7 cx7 54,.row ux7_w 56 32]) M M32∧St w (lentX [.box bx1 cx1 90,.stk ux1_6 9 1 xsx1_6,.box bx6 cx6 55,.box bx7 cx7 54,.row ux7_w 56 32]) M32 [.box b12 cx5 40,.box b10 cx4 43,.box bx1 cx1 90,.stk ux1_6 9 1 xsx1_6,.box bx6 cx6 55,.box bx7 cx7 54,.row ux7_w 56 32] w'∧T' 0 = .pointer (some ⟨bx1,0,none⟩)∧T' 3 = .pointer (some ⟨bx6,0,none⟩)∧T' 4 = .pointer (some ⟨bx7,0,none⟩)∧T' 19 = .bool c34∧topSameF_j2 fu x1 l3 x6 x7 c34=some r) ?_ ?_
 have hF133:=Qg w.heap.size (lentX [.box bx1 cx1 90,.stk ux1_6 9 1 xsx1_6,.box bx6 cx6 55,.box bx7 cx7 54,.row ux7_w 56 32]) M
 refine Qi <|Qd (Qp Ja rfl) <|Qd (Ql (.int .i64 x4.kind) Z5 rfl (hS.bvB 1 rfl) (Ko (rr hcx4))) <|Qd (Yc rfl rfl) <|Qd (Qe (.bool (x4.kind==2)) rfl) ?_
 rcases ic hz with ⟨hc134,hz⟩ | ⟨hc134,hz⟩<;>rw [hc134]
 refine Q2 4 rfl ?_
 refine Qf (Qa ?_)
 exact ⟨M,true,hF133,hS,hT_0,hT_3,hT_4,rfl,hz⟩
 refine Qk rfl rfl (Qp Ja rfl) <|Qk rfl rfl (Ql (.int .i64 x4.kind) Z5 rfl (hS.bvB 1 rfl) (Ko (rr hcx4))) <|Qk rfl rfl (Yc rfl rfl) <|Qd (Ze (.bool (x4.kind==3)) rfl rfl) ?_
 refine Qf (Qa ?_)
 exact ⟨M,(x4.kind==3),hF133,hS,hT_0,hT_3,hT_4,rfl,hz⟩
 rintro T33 w31 ⟨M32,c34,hx35,hS,hT33_0,hT33_3,hT33_4,hT33_19,hz⟩
 replace hcx1:=Rep.mono hx35.1 hcx1
 replace hkx1_6:=Zm hx35.1 hkx1_6
 replace hcx6:=Rep.mono hx35.1 hcx6
 replace hcx7:=Rep.mono hx35.1 hcx7
 replace hF30:=Qc hF30 hx35
 rw [topSameF_j2] at hz
 refine Qr hT33_19 (fun hc36 => ?_) (fun hc36 => ?_)
 replace hz:=Qn hz hc36
 refine Qh <|Qi <|Qd (Qe (.int .i64 0) rfl) ?_
 refine Qf (Qa ?_)
 refine Qy ?_
 refine Zy (fun k55 T' w' => ∃ M38 cs40 d41 cs42 d43 cs44 d45 v46 xs47 l48 v51 y53,Mm.ext w.heap.size (lentX [.box bx1 cx1 90,.stk ux1_6 9 1 xsx1_6,.box bx6 cx6 55,.box bx7 cx7 54,.row ux7_w 56 32]) M32 M38∧St w (lentX [.box bx1 cx1 90,.stk ux1_6 9 1 xsx1_6,.box bx6 cx6 55,.box bx7 cx7 54,.row ux7_w 56 32]) M38 [.box b12 cx5 40,.box b10 cx4 43,.box bx1 cs40 90,.stk v46 9 1 xs47,.box bx6 cs42 55,.box bx7 cs44 54,.row v51 56 32] w'∧rep M38 cs40 d41∧rep M38 cs42 d43∧rep M38 cs44 d45∧skr M38 v46 xs47 l48∧sl cs40 (0+1993) 1=[v46]∧sl cs44 (0+0) 1=[v51]∧T' 0 = .pointer (some ⟨bx1,0,none⟩)∧T' 3 = .pointer (some ⟨bx6,0,none⟩)∧T' 4 = .pointer (some ⟨bx7,0,none⟩)∧T' 20 = .int .i64 y53∧topSameF_l1 fu k55 d41 d43 d45 l48 y53=some r) fu ?_ ?_ ?_
 exact ⟨M32,cx1,x1,cx6,x6,cx7,x7,ux1_6,xsx1_6,l3,ux7_w,(0:Int),(Qg _ _ _),hS,hcx1,hcx6,hcx7,hkx1_6,hpx1_6,hpx7_w,hT33_0,hT33_3,hT33_4,rfl,hz⟩
 rintro T' w' ⟨_,_,_,_,_,_,_,_,_,_,_,_,_,_,_,_,_,_,_,_,_,_,_,_,hz⟩
 rw [topSameF_l1] at hz
 cases hz
 intro k55
 rintro T39 w37 ⟨M38,cs40,d41,cs42,d43,cs44,d45,v46,xs47,l48,v51,y53,hx57,hS,hb40,hb42,hb44,hk49,hp50,hp52,hT39_0,hT39_3,hT39_4,hT39_20,hz⟩
 replace hF30:=Qc hF30 hx57
 have hF56:=hx57
 rw [topSameF_l1] at hz
 obtain ⟨rec54,hrec54⟩ : ∃ f,f=topSameF_l1 fu k55:=⟨_,rfl⟩
 rw [← hrec54] at hz
 refine Qh <|Qi <|Qd (Zq hT39_20 rfl) ?_
 refine Qf (Qa ?_)
 refine Qh ?_
 refine Qr rfl (fun hc58 => ?_) (fun hc58 => ?_)
 replace hz:=Qn hz hc58
 refine Qv (Qa ?_)
 refine Qz (fun T' w' => ∃ M60 cs62 d63 cs64 d65 cs66 d67 v68 xs69 l70 v73,Mm.ext w.heap.size (lentX [.box bx1 cx1 90,.stk ux1_6 9 1 xsx1_6,.box bx6 cx6 55,.box bx7 cx7 54,.row ux7_w 56 32]) M38 M60∧St w (lentX [.box bx1 cx1 90,.stk ux1_6 9 1 xsx1_6,.box bx6 cx6 55,.box bx7 cx7 54,.row ux7_w 56 32]) M60 [.box b12 cx5 40,.box b10 cx4 43,.box bx1 cs62 90,.stk v68 9 1 xs69,.box bx6 cs64 55,.box bx7 cs66 54,.row v73 56 32] w'∧rep M60 cs62 d63∧rep M60 cs64 d65∧rep M60 cs66 d67∧skr M60 v68 xs69 l70∧sl cs62 (0+1993) 1=[v68]∧sl cs66 (0+0) 1=[v73]∧T' 0 = .pointer (some ⟨bx1,0,none⟩)∧T' 3 = .pointer (some ⟨bx6,0,none⟩)∧T' 4 = .pointer (some ⟨bx7,0,none⟩)∧T' 20 = .int .i64 y53∧topSameF_j3 y53 rec54 d63 d65 d67 l70=some r) ?_ ?_
 have hF76:=Qg w.heap.size (lentX [.box bx1 cx1 90,.stk ux1_6 9 1 xsx1_6,.box bx6 cx6 55,.box bx7 cx7 54,.row ux7_w 56 32]) M38
 refine Qy <|Qh <|Qi <|Qd (Qe (.int .i64 y53) hT39_20) <|Qd (Qj (.int .i64 y53) rfl) ?_
 refine Qf (Qa ?_)
 refine Qh <|Qi <|Qd (Qe (.pointer (some ⟨bx1,0,none⟩)) hT39_0) <|Qd (Qe (.int .i64 y53) rfl) ?_
 obtain ⟨r79,hr78,hz⟩:=Qb hz
 refine Qu (Zw (vs:=[.pointer (some ⟨bx1,0,none⟩),.int .i64 y53]) (L:=[.box bx1 cs40 90]) (R:=[.box b12 cx5 40,.box b10 cx4 43,.stk v46 9 1 xs47,.box bx6 cs42 55,.box bx7 cs44 54,.row v51 56 32]) (rv:=(fun M' u L' => ∃ c0,u = .tuple #[.agg c0.toArray,.bool r79.2]∧L'=[.box bx1 cs40 90]∧rep M' c0 r79.1)) cb17 (Ya rfl rfl) hS (hS.sel [2,0,1,3,4,5,6] (by decide) rfl) (fun hS=>clNode_ok hS hb40 hr78) ?_)
 rintro u78 M78 w77 L78 hx78 ⟨c0_78,rfl,hL78,f78_0⟩ hS
 replace hS:=hS _ hL78
 replace hb40:=Rep.mono hx78.1 hb40
 replace hb42:=Rep.mono hx78.1 hb42
 replace hb44:=Rep.mono hx78.1 hb44
 replace hk49:=Zm hx78.1 hk49
 replace hF76:=Qc hF76 hx78
 refine Qd (Qe (.tuple #[.agg c0_78.toArray,.bool r79.2]) rfl) <|Qd (Zc (v := .agg c0_78.toArray) rfl rfl) <|Qd (Zc (v := .bool r79.2) rfl rfl) ?_
 refine Qu (Zf tz34 hS ?_)
 intro b81 w80 hb81 hS
 have zb81:rep M78 (Zr.zc GNode) (Zr.zd:GNode):=Zr.zr
 obtain ⟨d84,hd83,hz⟩:=Qb hz
 refine Qu (Q8 0 201 hS rfl zb81 rfl rfl f78_0 rfl rfl (Lf (rr zb81) f78_0) hd83 ?_)
 intro cs83 w82 hb83 ha83 hs83 hS
 refine Qd (Qj (.bool r79.2) rfl) ?_
 refine Qf (Qa ?_)
 refine Qz (fun T' w' => ∃ M86 cs88 d89 v90,Mm.ext w.heap.size (lentX [.box bx1 cx1 90,.stk ux1_6 9 1 xsx1_6,.box bx6 cx6 55,.box bx7 cx7 54,.row ux7_w 56 32]) M78 M86∧St w (lentX [.box bx1 cx1 90,.stk ux1_6 9 1 xsx1_6,.box bx6 cx6 55,.box bx7 cx7 54,.row ux7_w 56 32]) M86 [.box b81 cs83 34,.box bx1 cs40 90,.box b12 cx5 40,.box b10 cx4 43,.stk v46 9 1 xs47,.box bx6 cs42 55,.box bx7 cs88 54,.row v90 56 32] w'∧rep M86 cs88 d89∧sl cs88 (0+0) 1=[v90]∧T' 0 = .pointer (some ⟨bx1,0,none⟩)∧T' 3 = .pointer (some ⟨bx6,0,none⟩)∧T' 4 = .pointer (some ⟨bx7,0,none⟩)∧T' 9 = .int .i64 y53∧T' 10 = .pointer (some ⟨b81,0,none⟩)∧T' 20 = .int .i64 y53∧topSameF_j4 d41 d43 l48 y53 rec54 d84 d89=some r) ?_ ?_
 have hF104:=Qg w.heap.size (lentX [.box bx1 cx1 90,.stk ux1_6 9 1 xsx1_6,.box bx6 cx6 55,.box bx7 cx7 54,.row ux7_w 56 32]) M78
 refine Qh <|W_drawq Z6 (by kernel_rfl) hS <|Yn (Qp K0 rfl) ?_
 obtain ⟨v105,ev105,hv105⟩:=(Vz (rr hb83))
 refine Yn (Ql v105 Z2 rfl (bvBS (j:=0) rfl) ev105) ?_
 obtain ⟨a106,c106,hv106,_⟩:=Q3 hv105
 refine Yn (Zk Qq (Vw hv106 rfl)) <|Yn (Qe (.int .i64 y53) rfl) ?_
 obtain ⟨u107,hx108,hz⟩:=Qb hz
 obtain ⟨hx108a,hx108b⟩:=Qt hx108
 refine Yn (Za ia55 hT39_3 rfl hx108a hx108b) ?_
 obtain ⟨x109,hx110,hz⟩:=Qb hz
 refine Yn (Ql (.int .i64 x109) Z5 rfl (bvBS (j:=5) rfl) (vp (k:=1) rfl rfl (rr hb42) hx110)) <|Yn (Yp rfl rfl) <|WQ_nil ?_
 intro w111 hS
 refine (Qa ?_)
 refine Qr rfl (fun hc112 => ?_) (fun hc112 => ?_)
 replace hz:=Qn hz hc112
 refine Yt [.box b81 cs83 34,.box bx7 cs44 54] [5] Z6 hS fun w113 hS hG114 hR115 => ?_
 obtain ⟨v116,ev116,hv116⟩:=(rr hb44)
 rw [Vu ev116 hp52] at hv116
 refine Y6 0 rfl (Ql v51 ts54 hT39_4 (Ym 1 rfl) hp52) hR115 ?_
 have ha117:=(rr hb83)
 refine Y6 1 rfl (Zg Vc rfl (Ym 0 rfl) (Rep.len ha117)) hR115 ?_
 obtain ⟨r120,hr119,hz⟩:=Qb hz
 refine w1 2 rfl (Y1 (vs:=[.agg (sl cs83 (0) 201).toArray]) (rv:=(fun M' u => ∃ cs,u = .agg cs.toArray∧rep M' cs r120)) cb24 (Zu rfl) hS (topPlaces_ok hS.agree ha117 hr119) ?_)
 intro u119 M119 w118 hx119 hu119 hS
 obtain ⟨c119,hq119,f119⟩:=hu119
 subst hq119
 replace hG114:=Qc hG114 hx119
 refine Yr hS hG114 fun hR121 => ?_
 refine w1 3 rfl (Z0 (α := Vector Int 32) (l:=([r120]:List (Vector Int 32))) [.agg c119.toArray] tl54 (Ys rfl Vf) rfl rfl (by decide) (by decide) (by decide) hS (K5 f119 Ji) ?_)
 intro v123 M123 w122 hx123 hv123 hS
 replace hv116:=Qw (hx119.1.trans hx123.1) hv116
 replace hG114:=Qc hG114 hx123
 refine Yr hS hG114 fun hR124 => ?_
 obtain ⟨l127,hr126,hz⟩:=Qb hz
 obtain ⟨hy126,hs126⟩:=Z1 hr126
 refine w1 4 rfl (Y3 (α := Vector Int 32) (j:=7) tp54 hS rfl rfl rfl hv116 hv123 hy126 ?_)
 intro v126 M126 w125 hx126 hv126 hS
 rw [← hs126] at hv126
 clear hr126 hs126
 replace hb44:=Rep.mono (hx119.1.trans (hx123.1.trans hx126.1)) hb44
 replace hF104:=Qc hF104 (hx119.trans (hx123.trans hx126))
 replace hG114:=Qc hG114 hx126
 refine Yr hS hG114 fun hR128 => ?_
 obtain ⟨d131,hd130,hz⟩:=Qb hz
 refine w1 5 rfl (Q8 6 1 hS rfl hb44 hT39_4 rfl (Q1 hv126) (Q9 hv126) rfl (Lf (rr hb44) (Q1 hv126)) hd130 ?_)
 intro cs130 w129 hb130 ha130 hs130 hS
 have hp132:=hs130
 refine ⟨nB,?_⟩
 refine wd (Qa ?_)
 exact ⟨M126,cs130,d131,v126,hF104,hS,hb130,hp132,hT39_0,hT39_3,hT39_4,rfl,rfl,hT39_20,hz⟩
 replace hz:=Qo hz hc112
 refine Qv (Qa ?_)
 exact ⟨M78,cs44,d45,v51,hF104,hS,hb44,hp52,hT39_0,hT39_3,hT39_4,rfl,rfl,hT39_20,hz⟩
 rintro T87 w85 ⟨M86,cs88,d89,v90,hx92,hS,hb88,hp91,hT87_0,hT87_3,hT87_4,hT87_9,hT87_10,hT87_20,hz⟩
 replace hb40:=Rep.mono hx92.1 hb40
 replace hb42:=Rep.mono hx92.1 hb42
 replace hk49:=Zm hx92.1 hk49
 replace hb83:=Rep.mono hx92.1 hb83
 replace hF76:=Qc hF76 hx92
 rw [topSameF_j4] at hz
 refine Qi <|Qd (Qe (.int .i64 y53) hT87_9) <|Qd (Qp K0 hT87_10) ?_
 obtain ⟨v93,ev93,hv93⟩:=(Vz (rr hb83))
 refine Qd (Ql v93 Z2 rfl (hS.bvB 0 rfl) ev93) ?_
 obtain ⟨a94,c94,hv94,_⟩:=Q3 hv93
 refine Qd (Zk Qq (Vw hv94 rfl)) ?_
 obtain ⟨u95,hx96,hz⟩:=Qb hz
 obtain ⟨hx96a,hx96b⟩:=Qt hx96
 refine Qd (Za ia55 hT87_3 rfl hx96a hx96b) ?_
 obtain ⟨x99,hx100,hz⟩:=Qb hz
 obtain ⟨a101,hx102,hz⟩:=Qb hz
 obtain ⟨d103,hd98,hz⟩:=Qb hz
 refine Qu (Q8 5 1 hS rfl hb42 rfl rfl (ri (d84.order.length:Int):rep M86 _ _) rfl rfl (vu (k:=1) rfl rfl (rr hb42) (Lf (vp (k:=1) rfl rfl (rr hb42) hx100) (ri (d84.order.length:Int):rep M86 _ _)) hx102) hd98 ?_)
 intro cs98 w97 hb98 ha98 hs98 hS
 refine Qf (Q7 ?_)
 refine (Qa ?_)
 exact ⟨M86,cs40,d41,cs98,d103,cs88,d89,v46,xs47,l48,v90,hF76,(hS.sel (H':=[.box b12 cx5 40,.box b10 cx4 43,.box bx1 cs40 90,.stk v46 9 1 xs47,.box bx6 cs98 55,.box bx7 cs88 54,.row v90 56 32]) [2,3,1,4,5,6,7] (by decide) rfl),hb40,hb98,hb88,hk49,hp50,hp91,hT87_0,hT87_3,hT87_4,hT87_20,hz⟩
 rintro T61 w59 ⟨M60,cs62,d63,cs64,d65,cs66,d67,v68,xs69,l70,v73,hx75,hS,hb62,hb64,hb66,hk71,hp72,hp74,hT61_0,hT61_3,hT61_4,hT61_20,hz⟩
 replace hF56:=Qc hF56 hx75
 rw [topSameF_j3] at hz
 refine Qi <|Qd (Zz hT61_20 rfl) <|Qd (Qe (.int .i64 (IntKind.wrap .i64 (y53+1))) rfl) ?_
 refine Qf (Qa ?_)
 exact ⟨M60,cs62,d63,cs64,d65,cs66,d67,v68,xs69,l70,v73,(IntKind.wrap .i64 (y53+1)),hF56,hS,hb62,hb64,hb66,hk71,hp72,hp74,hT61_0,hT61_3,hT61_4,rfl,(by rw [← hrec54];exact hz)⟩
 replace hz:=Qo hz hc58
 refine Zs <|Q0 <|Q0 <|Zt ?_
 refine (Qa ?_)
 exact ⟨M38,cs40,d41,cs42,d43,cs44,d45,v46,xs47,l48,v51,hF30,hS,hb40,hb42,hb44,hk49,hp50,hp52,hz⟩
 replace hz:=Qo hz hc36
 refine Qv (Qa ?_)
 exact ⟨M32,cx1,x1,cx6,x6,cx7,x7,ux1_6,xsx1_6,l3,ux7_w,hF30,hS,hcx1,hcx6,hcx7,hkx1_6,hpx1_6,hpx7_w,hz⟩
 rintro T15 w13 ⟨M14,cs16,d17,cs18,d19,cs20,d21,v22,xs23,l24,v27,hx29,hS,hb16,hb18,hb20,hk25,hp26,hp28,hz⟩
 replace hE:=Qc hE hx29
 rw [topSameF_j1] at hz
 refine Qh <|Qi <|Qd (Qj (.bool true) rfl) ?_
 refine Qf (Qa ?_)
 cases hz
 exact Q4 (Yj rfl rfl ⟨_,M14,_,rfl,hE,(hS.sel (H':=[.box bx1 cs16 90,.stk v22 9 1 xs23,.box bx6 cs18 55,.box bx7 cs20 54,.row v27 56 32]) [2,3,4,5,6] (by decide) rfl),cs16,v22,xs23,cs18,cs20,v27,rfl,rfl,hb16,hk25,hp26,hb18,hb20,hp28⟩)
def playS_j1 (fu:Nat) (x1:List GAct) (d17:GCluster) (d19:Vector Int 6) (d21:List (Vector Int 32)) (l26:List ByteArray) (y29:Int) (rec30:GCluster→(Vector Int 6)→(List (Vector Int 32))→(List ByteArray)→Int→Option (GCluster × Bool × (Vector Int 6) × (List (Vector Int 32)) × (List ByteArray))):Option (GCluster × Bool × (Vector Int 6) × (List (Vector Int 32)) × (List ByteArray)) :=
 (idx x1 y29).bind fun x39 =>
 (clDoD fu d17 l26 x39).bind fun r43 =>
 (some r43.1).bind fun d48 =>
 (idx x1 y29).bind fun x53 =>
 (topSameFD fu r43.2.1 r43.2.2 x53 d48 d19 d21).bind fun r59 =>
 (bif !r59.1 then
 some (r59.2.1,false,r59.2.2.2.1,r59.2.2.2.2,r59.2.2.1)
 else
 rec30 r59.2.1 r59.2.2.2.1 r59.2.2.2.2 r59.2.2.1 (IntKind.wrap .i64 (y29+1)))
def playS_j2 (fu:Nat) (x1:List GAct) (d17:GCluster) (d19:Vector Int 6) (d21:List (Vector Int 32)) (l26:List ByteArray) (y29:Int) (rec30:GCluster→(Vector Int 6)→(List (Vector Int 32))→(List ByteArray)→Int→Option (GCluster × Bool × (Vector Int 6) × (List (Vector Int 32)) × (List ByteArray))) (c66:Bool):Option (GCluster × Bool × (Vector Int 6) × (List (Vector Int 32)) × (List ByteArray)) :=
 (bif c66 then
 playS_j1 fu x1 d17 d19 d21 l26 y29 rec30
 else
 some (d17,true,d19,d21,l26))
def playS_l1 (fu:Nat) (x1:List GAct):Nat→GCluster→(Vector Int 6)→(List (Vector Int 32))→(List ByteArray)→Int→Option (GCluster × Bool × (Vector Int 6) × (List (Vector Int 32)) × (List ByteArray))
 | 0,_,_,_,_,_=>none
 | n+1,d17,d19,d21,l26,y29 =>
 (bif decide (y29<(x1.length:Int)) then
 playS_j2 fu x1 d17 d19 d21 l26 y29 (playS_l1 fu x1 n) (decide (y29<150))
 else
 playS_j2 fu x1 d17 d19 d21 l26 y29 (playS_l1 fu x1 n) false)
def playSD (fu:Nat) (x1:List GAct) (x2:Vector Int 6) (x3:List (Vector Int 32)):Option (GCluster × Bool × (Vector Int 6) × (List (Vector Int 32)) × (List ByteArray)) :=
 (aliveD fu).bind fun r7 =>
 (bif !r7 then
 none
 else
 (clNewD fu).bind fun r11 =>
 playS_l1 fu x1 fu r11.1 x2 x3 r11.2 0)
set_option maxRecDepth 100000 in
set_option maxHeartbeats 4000000 in
theorem playS_ok {M:Mm} {w:World} {vx1:Value} {bx2:Nat} {cx2:List Value} {bx3:Nat} {cx3:List Value} {ux3_w:Value} {x1:List GAct} {x2:Vector Int 6} {x3:List (Vector Int 32)} {fu:Nat} {r:GCluster × Bool × (Vector Int 6) × (List (Vector Int 32)) × (List ByteArray)} (hS:St w (lentX [.box bx2 cx2 55,.box bx3 cx3 54,.row ux3_w 56 32]) M [.box bx2 cx2 55,.box bx3 cx3 54,.row ux3_w 56 32] w) (hvx1:repL M vx1 x1) (hcx2:rep M cx2 x2) (hcx3:rep M cx3 x3) (hpx3_w:sl cx3 0 1=[ux3_w]) (hz:playSD fu x1 x2 x3=some r) :
    Calls Try.prog 15 #[vx1,.func (.func 23) #[] #[.pointer (some ⟨bx2,0,none⟩),.pointer (some ⟨bx3,0,none⟩)]] w (GivesL M w [.box bx2 cx2 55,.box bx3 cx3 54,.row ux3_w 56 32] (fun M' u L' => ∃ bP0 kP0 k0 k1 u2 uP6 xP6,u = .tuple #[.pointer (some ⟨bP0,0,none⟩),.bool r.2.1]∧L'=[.box bx2 k0 55,.box bx3 k1 54,.row u2 56 32,.box bP0 kP0 90,.stk uP6 9 1 xP6]∧rep M' kP0 r.1∧rep M' k0 r.2.2.1∧rep M' k1 r.2.2.2.1∧sl k1 0 1=[u2]∧skr M' uP6 xP6 r.2.2.2.2∧sl kP0 1993 1=[uP6])):=by
 refine Zh Try.func15 rfl 39 rfl rfl (by kernel_rfl) fun T hT => ?_
 have hT_0:T 0=vx1:=hT 0
 have hT_1:T 1 = .func (.func 23) #[] #[.pointer (some ⟨bx2,0,none⟩),.pointer (some ⟨bx3,0,none⟩)]:=hT 1
 clear hT
 have hE:=Qg w.heap.size (lentX [.box bx2 cx2 55,.box bx3 cx3 54,.row ux3_w 56 32]) M
 rw [playSD] at hz
 refine Qh <|Qi <|Q2 2 rfl ?_
 refine Qf (Qa ?_)
 refine Qh <|Qh <|Qi ?_
 obtain ⟨r7,hr6,hz⟩:=Qb hz
 refine Qu (Z4 (vs:=[]) (v := .bool r7) cb33 args0 hS (alive_ok hS.agree hr6) ?_)
 intro w5 hS
 refine Qd (Ye rfl) ?_
 refine Qf (Qa ?_)
 refine Qr rfl (fun hc8 => ?_) (fun hc8 => ?_)
 replace hz:=Qn hz hc8
 refine Qh <|Qi <|Q2 2 rfl ?_
 refine Qf (Qa ?_)
 cases hz
 replace hz:=Qo hz hc8
 refine Qv (Qa ?_)
 refine Qh <|Qi ?_
 obtain ⟨r11,hr10,hz⟩:=Qb hz
 refine Qu (Zw (vs:=[]) (L:=[]) (R:=[.box bx2 cx2 55,.box bx3 cx3 54,.row ux3_w 56 32]) (rv:=(fun M' u L' => ∃ bP0 kP0 uP6 xP6,u = .pointer (some ⟨bP0,0,none⟩)∧L'=[.box bP0 kP0 90,.stk uP6 9 1 xP6]∧rep M' kP0 r11.1∧skr M' uP6 xP6 r11.2∧sl kP0 1993 1=[uP6])) cb41 args0 hS (hS.sel [0,1,2] (by decide) rfl) (fun hS=>clNew_ok hS.agree hr10) ?_)
 rintro u10 M10 w9 L10 hx10 ⟨bP0_10,kP0_10,uP6_10,xP6_10,rfl,hL10,f10_0,f10_1,f10_2⟩ hS
 replace hS:=hS _ hL10
 replace hvx1:=Qw hx10.1 hvx1
 replace hcx2:=Rep.mono hx10.1 hcx2
 replace hcx3:=Rep.mono hx10.1 hcx3
 replace hE:=Qc hE hx10
 refine Qd (Qj (.pointer (some ⟨bP0_10,0,none⟩)) rfl) ?_
 refine Qf (Qa ?_)
 refine Qh <|Qh <|Qi <|Qd (Qj (.int .i64 0) rfl) ?_
 refine Qf (Qa ?_)
 refine Qy ?_
 refine Zy (fun k31 T' w' => ∃ M14 cs16 d17 cs18 d19 cs20 d21 v22 v24 xs25 l26 y29,Mm.ext w.heap.size (lentX [.box bx2 cx2 55,.box bx3 cx3 54,.row ux3_w 56 32]) M10 M14∧St w (lentX [.box bx2 cx2 55,.box bx3 cx3 54,.row ux3_w 56 32]) M14 [.box bP0_10 cs16 90,.stk v24 9 1 xs25,.box bx2 cs18 55,.box bx3 cs20 54,.row v22 56 32] w'∧rep M14 cs16 d17∧rep M14 cs18 d19∧rep M14 cs20 d21∧sl cs20 (0+0) 1=[v22]∧skr M14 v24 xs25 l26∧sl cs16 (0+1993) 1=[v24]∧T' 0=vx1∧T' 1 = .func (.func 23) #[] #[.pointer (some ⟨bx2,0,none⟩),.pointer (some ⟨bx3,0,none⟩)]∧T' 6 = .pointer (some ⟨bP0_10,0,none⟩)∧T' 7 = .int .i64 y29∧playS_l1 fu x1 k31 d17 d19 d21 l26 y29=some r) fu ?_ ?_ ?_
 exact ⟨M10,kP0_10,r11.1,cx2,x2,cx3,x3,ux3_w,uP6_10,xP6_10,r11.2,(0:Int),(Qg _ _ _),hS,f10_0,hcx2,hcx3,hpx3_w,f10_1,f10_2,hT_0,hT_1,rfl,rfl,hz⟩
 rintro T' w' ⟨_,_,_,_,_,_,_,_,_,_,_,_,_,_,_,_,_,_,_,_,_,_,_,_,hz⟩
 rw [playS_l1] at hz
 cases hz
 intro k31
 rintro T15 w13 ⟨M14,cs16,d17,cs18,d19,cs20,d21,v22,v24,xs25,l26,y29,hx33,hS,hb16,hb18,hb20,hp23,hk27,hp28,hT15_0,hT15_1,hT15_6,hT15_7,hz⟩
 replace hvx1:=Qw hx33.1 hvx1
 replace hE:=Qc hE hx33
 have hF32:=hx33
 rw [playS_l1] at hz
 obtain ⟨rec30,hrec30⟩ : ∃ f,f=playS_l1 fu x1 k31:=⟨_,rfl⟩
 rw [← hrec30] at hz
 refine Qz (fun T' w' => ∃ M35,Mm.ext w.heap.size (lentX [.box bx2 cx2 55,.box bx3 cx3 54,.row ux3_w 56 32]) M14 M35∧St w (lentX [.box bx2 cx2 55,.box bx3 cx3 54,.row ux3_w 56 32]) M35 [.box bP0_10 cs16 90,.stk v24 9 1 xs25,.box bx2 cs18 55,.box bx3 cs20 54,.row v22 56 32] w'∧T' 0=vx1∧T' 1 = .func (.func 23) #[] #[.pointer (some ⟨bx2,0,none⟩),.pointer (some ⟨bx3,0,none⟩)]∧T' 6 = .pointer (some ⟨bP0_10,0,none⟩)∧T' 7 = .int .i64 y29∧playS_j1 fu x1 d17 d19 d21 l26 y29 rec30=some r) ?_ ?_
 have hF62:=Qg w.heap.size (lentX [.box bx2 cx2 55,.box bx3 cx3 54,.row ux3_w 56 32]) M14
 refine Qz (fun T' w' => ∃ M64 c66,Mm.ext w.heap.size (lentX [.box bx2 cx2 55,.box bx3 cx3 54,.row ux3_w 56 32]) M14 M64∧St w (lentX [.box bx2 cx2 55,.box bx3 cx3 54,.row ux3_w 56 32]) M64 [.box bP0_10 cs16 90,.stk v24 9 1 xs25,.box bx2 cs18 55,.box bx3 cs20 54,.row v22 56 32] w'∧T' 0=vx1∧T' 1 = .func (.func 23) #[] #[.pointer (some ⟨bx2,0,none⟩),.pointer (some ⟨bx3,0,none⟩)]∧T' 6 = .pointer (some ⟨bP0_10,0,none⟩)∧T' 7 = .int .i64 y29∧T' 19 = .bool c66∧playS_j2 fu x1 d17 d19 d21 l26 y29 rec30 c66=some r) ?_ ?_
 have hF69:=Qg w.heap.size (lentX [.box bx2 cx2 55,.box bx3 cx3 54,.row ux3_w 56 32]) M14
 refine Qi <|Qd (Qe (.int .i64 y29) hT15_7) <|Qd (Qe (vx1) hT15_0) ?_
 obtain ⟨a70,c70,hv70,_⟩:=Q3 hvx1
 refine Qd (Zk Try.underlying22 (Vw hv70 rfl)) <|Qd (Zq rfl rfl) <|Qd (Qe (.bool (decide (y29<(x1.length:Int)))) rfl) ?_
 rcases ic hz with ⟨hc71,hz⟩ | ⟨hc71,hz⟩<;>rw [hc71]
 refine Qk rfl rfl (Qe (.int .i64 y29) hT15_7) <|Qk rfl rfl (Zq rfl rfl) <|Qd (Zp (.bool (decide (y29<150))) rfl rfl) ?_
 refine Qf (Qa ?_)
 exact ⟨M14,(decide (y29<150)),hF69,hS,hT15_0,hT15_1,hT15_6,hT15_7,rfl,hz⟩
 refine Q2 3 rfl ?_
 refine Qf (Qa ?_)
 exact ⟨M14,false,hF69,hS,hT15_0,hT15_1,hT15_6,hT15_7,rfl,hz⟩
 rintro T65 w63 ⟨M64,c66,hx67,hS,hT65_0,hT65_1,hT65_6,hT65_7,hT65_19,hz⟩
 replace hb16:=Rep.mono hx67.1 hb16
 replace hb18:=Rep.mono hx67.1 hb18
 replace hb20:=Rep.mono hx67.1 hb20
 replace hk27:=Zm hx67.1 hk27
 replace hE:=Qc hE hx67
 replace hF62:=Qc hF62 hx67
 rw [playS_j2] at hz
 refine Qr hT65_19 (fun hc68 => ?_) (fun hc68 => ?_)
 replace hz:=Qn hz hc68
 refine Qv (Qa ?_)
 exact ⟨M64,hF62,hS,hT65_0,hT65_1,hT65_6,hT65_7,hz⟩
 replace hz:=Qo hz hc68
 refine Zs <|Q0 <|Q0 <|Zt ?_
 refine (Qa ?_)
 refine Qh <|Qi <|Qd (Qe (.pointer (some ⟨bP0_10,0,none⟩)) hT65_6) <|Q2 2 rfl ?_
 refine Qf (Qa ?_)
 cases hz
 exact Q4 (R_t2 rfl rfl rfl ⟨_,M64,_,rfl,hE,(hS.sel (H':=[.box bx2 cs18 55,.box bx3 cs20 54,.row v22 56 32,.box bP0_10 cs16 90,.stk v24 9 1 xs25]) [2,3,4,0,1] (by decide) rfl),bP0_10,cs16,cs18,cs20,v22,v24,xs25,rfl,rfl,hb16,hb18,hb20,hp23,hk27,hp28⟩)
 rintro T36 w34 ⟨M35,hx37,hS,hT36_0,hT36_1,hT36_6,hT36_7,hz⟩
 replace hvx1:=Qw hx37.1 hvx1
 replace hb16:=Rep.mono hx37.1 hb16
 replace hk27:=Zm hx37.1 hk27
 rw [playS_j1] at hz
 refine Qh <|Qy <|Qh <|Qi <|Qd (Qe (.pointer (some ⟨bP0_10,0,none⟩)) hT36_6) <|Qd (Qe (vx1) hT36_0) <|Qd (Qe (.int .i64 y29) hT36_7) ?_
 obtain ⟨x39,hx38,hz⟩:=Qb hz
 obtain ⟨b38,o38,c38,p38,hv38,hi38,hj38,hM38,hr38⟩:=Yd hvx1 hx38
 replace hr38:rep _ (sl p38 (o38+Int.toNat y29*4) 4) x39:=hr38
 refine Qd (Yq il22 rfl hv38 rfl hi38 hj38) ?_
 have ha40:=hr38
 refine Qd (Zg ta43 rfl (hS.bvM hM38) (Rep.len ha40)) ?_
 obtain ⟨r43,hr42,hz⟩:=Qb hz
 refine Qu (Zw (vs:=[.pointer (some ⟨bP0_10,0,none⟩),.agg (sl p38 (o38+Int.toNat y29*4) 4).toArray]) (L:=[.box bP0_10 cs16 90,.stk v24 9 1 xs25]) (R:=[.box bx2 cs18 55,.box bx3 cs20 54,.row v22 56 32]) (rv:=(fun M' u L' => ∃ c0 k0 u1 x1,u = .agg c0.toArray∧L'=[.box bP0_10 k0 90,.stk u1 9 1 x1]∧rep M' c0 r43.1∧rep M' k0 r43.2.1∧skr M' u1 x1 r43.2.2∧sl k0 1993 1=[u1])) cb19 (Ya rfl rfl) hS (hS.sel [0,1,2,3,4] (by decide) rfl) (fun hS=>clDo_ok hS hb16 hk27 hp28 ha40 hr42) ?_)
 rintro u42 M42 w41 L42 hx42 ⟨c0_42,k0_42,u1_42,x1_42,rfl,hL42,f42_0,f42_1,f42_2,f42_3⟩ hS
 replace hS:=hS _ hL42
 replace hvx1:=Qw hx42.1 hvx1
 replace hb18:=Rep.mono (hx37.1.trans hx42.1) hb18
 replace hb20:=Rep.mono (hx37.1.trans hx42.1) hb20
 refine Qu (Zf tz40 hS ?_)
 intro b45 w44 hb45 hS
 have zb45:rep M42 (Zr.zc GReply) (Zr.zd:GReply):=Zr.zr
 obtain ⟨d48,hd47,hz⟩:=Qb hz
 refine Qu (Q8 0 3 hS rfl zb45 rfl rfl f42_0 rfl rfl (Lf (rr zb45) f42_0) hd47 ?_)
 intro cs47 w46 hb47 ha47 hs47 hS
 refine Qf (Qa ?_)
 refine Qh <|Yt [.box b45 cs47 40] [] Z6 hS fun w49 hS hG50 hR51=>wy 0 rfl (Qe (.func (.func 23) #[] #[.pointer (some ⟨bx2,0,none⟩),.pointer (some ⟨bx3,0,none⟩)]) hT36_1) (fun _=>hR51) <|wy 1 rfl (Qe (.pointer (some ⟨bP0_10,0,none⟩)) hT36_6) (fun _=>hR51) <|wy 2 rfl (Qe (vx1) hT36_0) (fun _=>hR51) <|wy 3 rfl (Qe (.int .i64 y29) hT36_7) (fun _=>hR51) ?_
 obtain ⟨x53,hx52,hz⟩:=Qb hz
 obtain ⟨b52,o52,c52,p52,hv52,hi52,hj52,hM52,hr52⟩:=Yd hvx1 hx52
 replace hr52:rep _ (sl p52 (o52+Int.toNat y29*4) 4) x53:=hr52
 refine wy 4 rfl (Yq il22 rfl hv52 rfl hi52 hj52) (fun _=>hR51) ?_
 have ha54:=hr52
 refine Y6 5 rfl (Zg ta43 rfl (bvRM hM52) (Rep.len ha54)) hR51 ?_
 have ha55:=(rr hb47)
 refine Y6 6 rfl (Zg Kr rfl (Ym 0 rfl) (Rep.len ha55)) hR51 ?_
 obtain ⟨r59,hr58,hz⟩:=Qb hz
 refine w1 7 rfl (OW_clo rfl (Zw (vs:=[.pointer (some ⟨bP0_10,0,none⟩),.agg (sl p52 (o52+Int.toNat y29*4) 4).toArray,.agg (sl cs47 (0) 3).toArray,.pointer (some ⟨bx2,0,none⟩),.pointer (some ⟨bx3,0,none⟩)]) (L:=[.box bP0_10 k0_42 90,.stk u1_42 9 1 x1_42,.box bx2 cs18 55,.box bx3 cs20 54,.row v22 56 32]) (R:=[.box b45 cs47 40]) (rv:=(fun M' u L' => ∃ k0 u1 x1 k2 k3 u4,u = .bool r59.1∧L'=[.box bP0_10 k0 90,.stk u1 9 1 x1,.box bx2 k2 55,.box bx3 k3 54,.row u4 56 32]∧rep M' k0 r59.2.1∧skr M' u1 x1 r59.2.2.1∧sl k0 1993 1=[u1]∧rep M' k2 r59.2.2.2.1∧rep M' k3 r59.2.2.2.2∧sl k3 0 1=[u4])) cb23 (args3c rfl rfl rfl) hS (hS.sel [1,2,3,4,5,0] (by decide) rfl) (fun hS=>topSameF_ok hS f42_1 f42_2 f42_3 ha54 ha55 hb18 hb20 hp23 hr58)) ?_)
 rintro u58 M58 w57 L58 hx58 ⟨k0_58,u1_58,x1_58,k2_58,k3_58,u4_58,rfl,hL58,f58_0,f58_1,f58_2,f58_3,f58_4,f58_5⟩ hS
 replace hS:=hS _ hL58
 replace hE:=Qc hE (hx37.trans (hx42.trans hx58))
 replace hF32:=Qc hF32 (hx37.trans (hx42.trans hx58))
 replace hG50:=Qc hG50 hx58
 refine Yr hS hG50 fun hR60=>wy 8 rfl (Ye rfl) (fun _=>hR60) ?_
 refine wd (Qa ?_)
 refine Qr rfl (fun hc61 => ?_) (fun hc61 => ?_)
 replace hz:=Qn hz hc61
 refine Qh <|Qi <|Qd (Qe (.pointer (some ⟨bP0_10,0,none⟩)) hT36_6) <|Q2 2 rfl ?_
 refine Qf (Qa ?_)
 cases hz
 exact Q4 (Zi (Qs (Qs (Zi (Qs (R_t2 rfl rfl rfl ⟨_,M58,_,rfl,hE,(hS.sel (H':=[.box bx2 k2_58 55,.box bx3 k3_58 54,.row u4_58 56 32,.box bP0_10 k0_58 90,.stk u1_58 9 1 x1_58]) [2,3,4,0,1] (by decide) rfl),bP0_10,k0_58,k2_58,k3_58,u4_58,u1_58,x1_58,rfl,rfl,f58_0,f58_3,f58_4,f58_5,f58_1,f58_2⟩))))))
 replace hz:=Qo hz hc61
 refine Qv (Q7 ?_)
 refine (Qa ?_)
 refine Qi <|Qd (Qe (.int .i64 y29) hT36_7) <|Qd (Zz rfl rfl) <|Qd (Qj (.int .i64 (IntKind.wrap .i64 (y29+1))) rfl) ?_
 refine Qf (Qa ?_)
 exact ⟨M58,k0_58,r59.2.1,k2_58,r59.2.2.2.1,k3_58,r59.2.2.2.2,u4_58,u1_58,x1_58,r59.2.2.1,(IntKind.wrap .i64 (y29+1)),hF32,(hS.sel (H':=[.box bP0_10 k0_58 90,.stk u1_58 9 1 x1_58,.box bx2 k2_58 55,.box bx3 k3_58 54,.row u4_58 56 32]) [0,1,2,3,4] (by decide) rfl),f58_0,f58_3,f58_4,f58_5,f58_1,f58_2,hT36_0,hT36_1,hT36_6,rfl,(by rw [← hrec30];exact hz)⟩
def topSame_j1 (y39:Int) (rec40:GCluster→(List ByteArray)→Int→Option Bool) (d49:GCluster) (l52:List ByteArray):Option Bool :=
 rec40 d49 l52 (IntKind.wrap .i64 (y39+1))
def topSame_j2 (y74:Int) (rec75:Bool→Bool→Int→Option Bool) (c83:Bool) (c84:Bool):Option Bool :=
 rec75 c83 c84 (IntKind.wrap .i64 (y74+1))
def topSame_j3 (y23:Int) (y39:Int) (c72:Bool) (c73:Bool) (y74:Int) (rec75:Bool→Bool→Int→Option Bool) (d94:Vector Int 32) (c98:Bool):Option Bool :=
 (bif c98 then
 (bif c72 then
 (bif c73 then
 topSame_j2 y74 rec75 true true
 else
 (inR y23 32).bind fun _ =>
 (idxV d94 y23).bind fun x108 =>
 (inR y39 32).bind fun _ =>
 (idxV d94 y39).bind fun x112 =>
 topSame_j2 y74 rec75 true (decide (x108>x112)))
 else
 (inR y23 32).bind fun _ =>
 (idxV d94 y23).bind fun x116 =>
 (inR y39 32).bind fun _ =>
 (idxV d94 y39).bind fun x120 =>
 (bif c73 then
 topSame_j2 y74 rec75 (decide (x116<x120)) true
 else
 (inR y23 32).bind fun _ =>
 (idxV d94 y23).bind fun x108 =>
 (inR y39 32).bind fun _ =>
 (idxV d94 y39).bind fun x112 =>
 topSame_j2 y74 rec75 (decide (x116<x120)) (decide (x108>x112))))
 else
 topSame_j2 y74 rec75 c72 c73)
def topSame_j4 (d33:GCluster) (l36:List ByteArray) (y39:Int) (rec40:GCluster→(List ByteArray)→Int→Option Bool) (c136:Bool):Option Bool :=
 (bif c136 then
 some false
 else
 topSame_j1 y39 rec40 d33 l36)
def topSame_l3 (r10:GCluster × Bool × (Vector Int 6) × (List (Vector Int 32)) × (List ByteArray)) (y23:Int) (d33:GCluster) (l36:List ByteArray) (y39:Int) (rec40:GCluster→(List ByteArray)→Int→Option Bool):Nat→Bool→Bool→Int→Option Bool
 | 0,_,_,_=>none
 | n+1,c72,c73,y74 =>
 (bif decide (y74<(r10.2.2.2.1.length:Int)) then
 (idx r10.2.2.2.1 y74).bind fun x88 =>
 (some x88).bind fun d94 =>
 (inR y23 32).bind fun _ =>
 (idxV d94 y23).bind fun x126 =>
 (bif decide (x126>0) then
 (inR y39 32).bind fun _ =>
 (idxV d94 y39).bind fun x131 =>
 topSame_j3 y23 y39 c72 c73 y74 (topSame_l3 r10 y23 d33 l36 y39 rec40 n) d94 (decide (x131>0))
 else
 topSame_j3 y23 y39 c72 c73 y74 (topSame_l3 r10 y23 d33 l36 y39 rec40 n) d94 false)
 else
 (bif c72 then
 topSame_j4 d33 l36 y39 rec40 c73
 else
 topSame_j4 d33 l36 y39 rec40 false))
def topSame_l2 (fu:Nat) (r10:GCluster × Bool × (Vector Int 6) × (List (Vector Int 32)) × (List ByteArray)) (y23:Int) (rec24:GCluster→(List ByteArray)→Int→Option Bool):Nat→GCluster→(List ByteArray)→Int→Option Bool
 | 0,_,_,_=>none
 | n+1,d33,l36,y39 =>
 (bif decide (y39<y23) then
 (clCaseD fu d33 y23).bind fun r59 =>
 (clCaseD fu d33 y39).bind fun r62 =>
 (topWayD fu r59 r62).bind fun r65 =>
 (bif !r65 then
 topSame_j1 y39 (topSame_l2 fu r10 y23 rec24 n) d33 l36
 else
 topSame_l3 r10 y23 d33 l36 y39 (topSame_l2 fu r10 y23 rec24 n) fu false false 0)
 else
 rec24 d33 l36 (IntKind.wrap .i64 (y23+1)))
def topSame_l1 (fu:Nat) (r10:GCluster × Bool × (Vector Int 6) × (List (Vector Int 32)) × (List ByteArray)):Nat→GCluster→(List ByteArray)→Int→Option Bool
 | 0,_,_,_=>none
 | n+1,d17,l20,y23 =>
 (bif decide (y23<32) then
 topSame_l2 fu r10 y23 (topSame_l1 fu r10 n) fu d17 l20 0
 else
 some true)
def topSameD (fu:Nat) (x1:List GAct):Option Bool :=
 (playSD fu x1 (Zr.zd:Vector Int 6) (Zr.zd:List (Vector Int 32))).bind fun r10 =>
 (bif !r10.2.1 then
 some false
 else
 topSame_l1 fu r10 fu r10.1 r10.2.2.2.2 0)
set_option maxRecDepth 100000 in
set_option maxHeartbeats 4000000 in
theorem topSame_ok {M:Mm} {w:World} {vx1:Value} {x1:List GAct} {fu:Nat} {r:Bool} (hA:Agree M w) (hvx1:repL M vx1 x1) (hz:topSameD fu x1=some r) :
    Calls Try.prog 5 #[vx1] w (GivesV w (.bool r)):=by
 refine Zh Try.func5 rfl 79 rfl rfl (by kernel_rfl) fun T hT => ?_
 have hT_0:T 0=vx1:=hT 0
 clear hT
 have hE:=Qg w.heap.size noX M
 have hS:St w noX M [] w:=Zv hA
 rw [topSameD] at hz
 refine Qh <|Qi <|Qd (Qj (.bool false) rfl) ?_
 refine Qf (Qa ?_)
 refine Qh <|Qi ?_
 refine Qu (Zf tz54 hS ?_)
 intro b3 w2 hb3 hS
 have zb3:rep M (Zr.zc (List (Vector Int 32))) (Zr.zd:List (Vector Int 32)):=Zr.zr
 have hp4:sl (Zr.zc (List (Vector Int 32))) 0 1=[.slice none 0 0]:=by rfl
 replace hS:=hS.nilRow 56 32
 refine Qf (Qa ?_)
 refine Qh <|Qi ?_
 refine Qu (Zf tz55 hS ?_)
 intro b7 w6 hb7 hS
 have zb7:rep M (Zr.zc (Vector Int 6)) (Zr.zd:Vector Int 6):=Zr.zr
 refine Qf (Qa ?_)
 refine Qh <|Qi <|Qd (Qe (vx1) hT_0) <|Qd (Y_mf (Ya rfl rfl)) ?_
 obtain ⟨r10,hr9,hz⟩:=Qb hz
 refine Qu (Zw (vs:=[vx1,.func (.func 23) #[] #[.pointer (some ⟨b7,0,none⟩),.pointer (some ⟨b3,0,none⟩)]]) (L:=[.box b7 (Zr.zc (Vector Int 6)) 55,.box b3 (Zr.zc (List (Vector Int 32))) 54,.row (.slice none 0 0) 56 32]) (R:=[]) (rv:=(fun M' u L' => ∃ bP0 kP0 k0 k1 u2 uP6 xP6,u = .tuple #[.pointer (some ⟨bP0,0,none⟩),.bool r10.2.1]∧L'=[.box b7 k0 55,.box b3 k1 54,.row u2 56 32,.box bP0 kP0 90,.stk uP6 9 1 xP6]∧rep M' kP0 r10.1∧rep M' k0 r10.2.2.1∧rep M' k1 r10.2.2.2.1∧sl k1 0 1=[u2]∧skr M' uP6 xP6 r10.2.2.2.2∧sl kP0 1993 1=[uP6])) cb15 (Ya rfl rfl) hS (hS.sel [0,2,1] (by decide) rfl) (fun hS=>playS_ok hS hvx1 zb7 zb3 hp4 hr9) ?_)
 rintro u9 M9 w8 L9 hx9 ⟨bP0_9,kP0_9,k0_9,k1_9,u2_9,uP6_9,xP6_9,rfl,hL9,f9_0,f9_1,f9_2,f9_3,f9_4,f9_5⟩ hS
 replace hS:=hS _ hL9
 refine Qd (Qe (.tuple #[.pointer (some ⟨bP0_9,0,none⟩),.bool r10.2.1]) rfl) <|Qd (Zc (v := .pointer (some ⟨bP0_9,0,none⟩)) rfl rfl) <|Qd (Zc (v := .bool r10.2.1) rfl rfl) <|Q2 2 rfl ?_
 refine Qf (Qa ?_)
 refine Qh <|Qh <|Qi <|Qd (Qe (.bool r10.2.1) rfl) <|Qd (Ye rfl) ?_
 refine Qf (Qa ?_)
 refine Qr rfl (fun hc12 => ?_) (fun hc12 => ?_)
 replace hz:=Qn hz hc12
 refine Qh <|Qi <|Qd (Qj (.bool false) rfl) ?_
 refine Qf (Qa ?_)
 cases hz
 exact Q4 (Qs (Yj rfl rfl ⟨rfl,(Qm (Qm (Qm (Qm (Qm hS))))).kept⟩))
 replace hz:=Qo hz hc12
 refine Qv (Qa ?_)
 refine Qh <|Qh <|Qi <|Qd (Qe (.int .i64 0) rfl) ?_
 refine Qf (Qa ?_)
 refine Qy ?_
 refine Zy (fun k25 T' w' => ∃ M14 cs16 d17 v18 xs19 l20 y23,Mm.ext w.heap.size noX M9 M14∧St w noX M14 [.box b7 k0_9 55,.box b3 k1_9 54,.row u2_9 56 32,.box bP0_9 cs16 90,.stk v18 9 1 xs19] w'∧rep M14 cs16 d17∧skr M14 v18 xs19 l20∧sl cs16 (0+1993) 1=[v18]∧T' 3 = .pointer (some ⟨b3,0,none⟩)∧T' 5 = .pointer (some ⟨bP0_9,0,none⟩)∧T' 21 = .int .i64 y23∧topSame_l1 fu r10 k25 d17 l20 y23=some r) fu ?_ ?_ ?_
 exact ⟨M9,kP0_9,r10.1,uP6_9,xP6_9,r10.2.2.2.2,(0:Int),(Qg _ _ _),hS,f9_0,f9_4,f9_5,rfl,rfl,rfl,hz⟩
 rintro T' w' ⟨_,_,_,_,_,_,_,_,_,_,_,_,_,_,_,hz⟩
 rw [topSame_l1] at hz
 cases hz
 intro k25
 rintro T15 w13 ⟨M14,cs16,d17,v18,xs19,l20,y23,hx27,hS,hb16,hk21,hp22,hT15_3,hT15_5,hT15_21,hz⟩
 replace f9_2:=Rep.mono hx27.1 f9_2
 have hF26:=hx27
 rw [topSame_l1] at hz
 obtain ⟨rec24,hrec24⟩ : ∃ f,f=topSame_l1 fu r10 k25:=⟨_,rfl⟩
 rw [← hrec24] at hz
 refine Qh <|Qi <|Qd (Zq hT15_21 rfl) ?_
 refine Qf (Qa ?_)
 refine Qh ?_
 refine Qr rfl (fun hc28 => ?_) (fun hc28 => ?_)
 replace hz:=Qn hz hc28
 refine Qv (Qa ?_)
 refine Qh <|Qy <|Qh <|Qi <|Qd (Qe (.int .i64 y23) hT15_21) <|Qd (Qj (.int .i64 y23) rfl) ?_
 refine Qf (Qa ?_)
 refine Qh <|Qi <|Q2 2 rfl ?_
 refine Qf (Qa ?_)
 refine Qy ?_
 refine Zy (fun k41 T' w' => ∃ M30 cs32 d33 v34 xs35 l36 y39,Mm.ext w.heap.size noX M14 M30∧St w noX M30 [.box b7 k0_9 55,.box b3 k1_9 54,.row u2_9 56 32,.box bP0_9 cs32 90,.stk v34 9 1 xs35] w'∧rep M30 cs32 d33∧skr M30 v34 xs35 l36∧sl cs32 (0+1993) 1=[v34]∧T' 3 = .pointer (some ⟨b3,0,none⟩)∧T' 5 = .pointer (some ⟨bP0_9,0,none⟩)∧T' 7 = .int .i64 y23∧T' 21 = .int .i64 y23∧T' 24 = .int .i64 y23∧T' 25 = .int .i64 y39∧topSame_l2 fu r10 y23 rec24 k41 d33 l36 y39=some r) fu ?_ ?_ ?_
 exact ⟨M14,cs16,d17,v18,xs19,l20,(0:Int),(Qg _ _ _),hS,hb16,hk21,hp22,hT15_3,hT15_5,rfl,hT15_21,rfl,rfl,hz⟩
 rintro T' w' ⟨_,_,_,_,_,_,_,_,_,_,_,_,_,_,_,_,_,_,hz⟩
 rw [topSame_l2] at hz
 cases hz
 intro k41
 rintro T31 w29 ⟨M30,cs32,d33,v34,xs35,l36,y39,hx43,hS,hb32,hk37,hp38,hT31_3,hT31_5,hT31_7,hT31_21,hT31_24,hT31_25,hz⟩
 replace f9_2:=Rep.mono hx43.1 f9_2
 replace hF26:=Qc hF26 hx43
 have hF42:=hx43
 rw [topSame_l2] at hz
 obtain ⟨rec40,hrec40⟩ : ∃ f,f=topSame_l2 fu r10 y23 rec24 k41:=⟨_,rfl⟩
 rw [← hrec40] at hz
 refine Qh <|Qi <|Qd (Zq hT31_25 hT31_24) ?_
 refine Qf (Qa ?_)
 refine Qh ?_
 refine Qr rfl (fun hc44 => ?_) (fun hc44 => ?_)
 replace hz:=Qn hz hc44
 refine Qv (Qa ?_)
 refine Qz (fun T' w' => ∃ M46 cs48 d49 v50 xs51 l52,Mm.ext w.heap.size noX M30 M46∧St w noX M46 [.box b7 k0_9 55,.box b3 k1_9 54,.row u2_9 56 32,.box bP0_9 cs48 90,.stk v50 9 1 xs51] w'∧rep M46 cs48 d49∧skr M46 v50 xs51 l52∧sl cs48 (0+1993) 1=[v50]∧T' 3 = .pointer (some ⟨b3,0,none⟩)∧T' 5 = .pointer (some ⟨bP0_9,0,none⟩)∧T' 7 = .int .i64 y23∧T' 21 = .int .i64 y23∧T' 24 = .int .i64 y23∧T' 25 = .int .i64 y39∧topSame_j1 y39 rec40 d49 l52=some r) ?_ ?_
 have hF56:=Qg w.heap.size noX M30
 refine Qy <|Qh <|Qi <|Qd (Qe (.int .i64 y39) hT31_25) <|Qd (Qj (.int .i64 y39) rfl) ?_
 refine Qf (Qa ?_)
 refine Qh <|Qh <|Qi <|Qd (Qe (.pointer (some ⟨bP0_9,0,none⟩)) hT31_5) <|Qd (Qe (.int .i64 y23) hT31_7) ?_
 obtain ⟨r59,hr58,hz⟩:=Qb hz
 refine Qu (Zw (vs:=[.pointer (some ⟨bP0_9,0,none⟩),.int .i64 y23]) (L:=[.box bP0_9 cs32 90]) (R:=[.box b7 k0_9 55,.box b3 k1_9 54,.row u2_9 56 32,.stk v34 9 1 xs35]) (rv:=(fun M' u L' => ∃ c0,u = .agg c0.toArray∧L'=[.box bP0_9 cs32 90]∧rep M' c0 r59)) cb20 (Ya rfl rfl) hS (hS.sel [3,0,1,2,4] (by decide) rfl) (fun hS=>clCase_ok hS hb32 hr58) ?_)
 rintro u58 M58 w57 L58 hx58 ⟨c0_58,rfl,hL58,f58_0⟩ hS
 replace hS:=hS _ hL58
 replace hb32:=Rep.mono hx58.1 hb32
 refine Qd (Qe (.pointer (some ⟨bP0_9,0,none⟩)) hT31_5) <|Qd (Qe (.int .i64 y39) rfl) ?_
 obtain ⟨r62,hr61,hz⟩:=Qb hz
 refine Qu (Zw (vs:=[.pointer (some ⟨bP0_9,0,none⟩),.int .i64 y39]) (L:=[.box bP0_9 cs32 90]) (R:=[.box b7 k0_9 55,.box b3 k1_9 54,.row u2_9 56 32,.stk v34 9 1 xs35]) (rv:=(fun M' u L' => ∃ c0,u = .agg c0.toArray∧L'=[.box bP0_9 cs32 90]∧rep M' c0 r62)) cb20 (Ya rfl rfl) hS (hS.sel [0,1,2,3,4] (by decide) rfl) (fun hS=>clCase_ok hS hb32 hr61) ?_)
 rintro u61 M61 w60 L61 hx61 ⟨c0_61,rfl,hL61,f61_0⟩ hS
 replace hS:=hS _ hL61
 replace f9_2:=Rep.mono (hx58.1.trans hx61.1) f9_2
 replace hb32:=Rep.mono hx61.1 hb32
 replace hk37:=Zm (hx58.1.trans hx61.1) hk37
 replace f58_0:=Rep.mono hx61.1 f58_0
 replace hF56:=Qc hF56 (hx58.trans hx61)
 obtain ⟨r65,hr64,hz⟩:=Qb hz
 refine Qu (Z4 (vs:=[.agg c0_58.toArray,.agg c0_61.toArray]) (v := .bool r65) cb21 (Ya rfl rfl) hS (topWay_ok hS.agree f58_0 f61_0 hr64) ?_)
 intro w63 hS
 refine Qd (Ye rfl) ?_
 refine Qf (Qa ?_)
 refine Qr rfl (fun hc66 => ?_) (fun hc66 => ?_)
 replace hz:=Qn hz hc66
 refine Zs <|Q0 <|Zt ?_
 refine (Qa ?_)
 exact ⟨M61,cs32,d33,v34,xs35,l36,hF56,(hS.sel (H':=[.box b7 k0_9 55,.box b3 k1_9 54,.row u2_9 56 32,.box bP0_9 cs32 90,.stk v34 9 1 xs35]) [1,2,3,0,4] (by decide) rfl),hb32,hk37,hp38,hT31_3,hT31_5,hT31_7,hT31_21,hT31_24,hT31_25,hz⟩
 replace hz:=Qo hz hc66
 refine Qv (Qa ?_)
 refine Qh <|Qi <|Q2 2 rfl ?_
 refine Qf (Qa ?_)
 refine Qh <|Qh <|Qi ?_
 obtain ⟨v67,ev67,hv67⟩:=(rr f9_2)
 rw [Vu ev67 f9_3] at hv67
 refine Qd (Ql u2_9 ts54 hT31_3 (hS.bvB 2 rfl) f9_3) ?_
 obtain ⟨a68,c68,hv68,_⟩:=Q3 hv67
 refine Qd (Zk Try.underlying54 (Vw hv68 rfl)) <|Qd (Qe (.int .i64 0) rfl) ?_
 refine Qf (Qa ?_)
 refine Qy ?_
 refine Zy (fun k76 T' w' => ∃ M70 c72 c73 y74,Mm.ext w.heap.size noX M61 M70∧St w noX M70 [.box bP0_9 cs32 90,.box b7 k0_9 55,.box b3 k1_9 54,.row u2_9 56 32,.stk v34 9 1 xs35] w'∧T' 3 = .pointer (some ⟨b3,0,none⟩)∧T' 5 = .pointer (some ⟨bP0_9,0,none⟩)∧T' 7 = .int .i64 y23∧T' 8 = .int .i64 y39∧T' 9 = .bool c72∧T' 10 = .bool c73∧T' 21 = .int .i64 y23∧T' 24 = .int .i64 y23∧T' 25 = .int .i64 y39∧T' 36=u2_9∧T' 37 = .int .i64 (r10.2.2.2.1.length:Int)∧T' 38 = .int .i64 y74∧topSame_l3 r10 y23 d33 l36 y39 rec40 k76 c72 c73 y74=some r) fu ?_ ?_ ?_
 exact ⟨M61,false,false,(0:Int),(Qg _ _ _),hS,hT31_3,hT31_5,hT31_7,rfl,rfl,rfl,hT31_21,hT31_24,hT31_25,rfl,rfl,rfl,hz⟩
 rintro T' w' ⟨_,_,_,_,_,_,_,_,_,_,_,_,_,_,_,_,_,_,hz⟩
 rw [topSame_l3] at hz
 cases hz
 intro k76
 rintro T71 w69 ⟨M70,c72,c73,y74,hx78,hS,hT71_3,hT71_5,hT71_7,hT71_8,hT71_9,hT71_10,hT71_21,hT71_24,hT71_25,hT71_36,hT71_37,hT71_38,hz⟩
 replace hb32:=Rep.mono hx78.1 hb32
 replace hk37:=Zm hx78.1 hk37
 replace hv67:=Qw hx78.1 hv67
 replace hF56:=Qc hF56 hx78
 have hF77:=hx78
 rw [topSame_l3] at hz
 obtain ⟨rec75,hrec75⟩ : ∃ f,f=topSame_l3 r10 y23 d33 l36 y39 rec40 k76:=⟨_,rfl⟩
 rw [← hrec75] at hz
 refine Qh <|Qi <|Qd (Zq hT71_38 hT71_37) ?_
 refine Qf (Qa ?_)
 refine Qh ?_
 refine Qr rfl (fun hc79 => ?_) (fun hc79 => ?_)
 replace hz:=Qn hz hc79
 refine Qv (Qa ?_)
 refine Qz (fun T' w' => ∃ M81 c83 c84,Mm.ext w.heap.size noX M70 M81∧St w noX M81 [.box bP0_9 cs32 90,.box b7 k0_9 55,.box b3 k1_9 54,.row u2_9 56 32,.stk v34 9 1 xs35] w'∧T' 3 = .pointer (some ⟨b3,0,none⟩)∧T' 5 = .pointer (some ⟨bP0_9,0,none⟩)∧T' 7 = .int .i64 y23∧T' 8 = .int .i64 y39∧T' 9 = .bool c83∧T' 10 = .bool c84∧T' 21 = .int .i64 y23∧T' 24 = .int .i64 y23∧T' 25 = .int .i64 y39∧T' 36=u2_9∧T' 37 = .int .i64 (r10.2.2.2.1.length:Int)∧T' 38 = .int .i64 y74∧topSame_j2 y74 rec75 c83 c84=some r) ?_ ?_
 have hF86:=Qg w.heap.size noX M70
 refine Qy <|Qh <|Qi ?_
 obtain ⟨x88,hx87,hz⟩:=Qb hz
 obtain ⟨b87,o87,c87,p87,hv87,hi87,hj87,hM87,hr87⟩:=Yd hv67 hx87
 replace hr87:rep _ (sl p87 (o87+Int.toNat y74*32) 32) x88:=hr87
 refine Qd (Yq il54 hT71_36 hv87 hT71_38 hi87 hj87) ?_
 have ha89:=hr87
 refine Qd (Zg ta56 rfl (hS.bvM hM87) (Rep.len ha89)) ?_
 refine Qu (Zf tz56 hS ?_)
 intro b91 w90 hb91 hS
 have zb91:rep M70 (Zr.zc (Vector Int 32)) (Zr.zd:Vector Int 32):=Zr.zr
 obtain ⟨d94,hd93,hz⟩:=Qb hz
 refine Qu (Q8 0 32 hS rfl zb91 rfl rfl ha89 rfl rfl (Lf (rr zb91) ha89) hd93 ?_)
 intro cs93 w92 hb93 ha93 hs93 hS
 refine Qf (Qa ?_)
 refine Qz (fun T' w' => ∃ M96 c98,Mm.ext w.heap.size noX M70 M96∧St w noX M96 [.box b91 cs93 56,.box bP0_9 cs32 90,.box b7 k0_9 55,.box b3 k1_9 54,.row u2_9 56 32,.stk v34 9 1 xs35] w'∧T' 3 = .pointer (some ⟨b3,0,none⟩)∧T' 5 = .pointer (some ⟨bP0_9,0,none⟩)∧T' 7 = .int .i64 y23∧T' 8 = .int .i64 y39∧T' 9 = .bool c72∧T' 10 = .bool c73∧T' 12 = .pointer (some ⟨b91,0,none⟩)∧T' 21 = .int .i64 y23∧T' 24 = .int .i64 y23∧T' 25 = .int .i64 y39∧T' 36=u2_9∧T' 37 = .int .i64 (r10.2.2.2.1.length:Int)∧T' 38 = .int .i64 y74∧T' 51 = .bool c98∧topSame_j3 y23 y39 c72 c73 y74 rec75 d94 c98=some r) ?_ ?_
 have hF123:=Qg w.heap.size noX M70
 refine Qi <|Qd (Qe (.int .i64 y23) hT71_7) ?_
 obtain ⟨u124,hx125,hz⟩:=Qb hz
 obtain ⟨hx125a,hx125b⟩:=Qt hx125
 refine Qd (Za V1 rfl rfl hx125a hx125b) ?_
 obtain ⟨x126,hx127,hz⟩:=Qb hz
 refine Qd (Ql (.int .i64 x126) Z5 rfl (hS.bvB 0 rfl) (vp (k:=1) rfl rfl (rr hb93) hx127)) <|Qd (Yu rfl rfl) <|Qd (Qe (.bool (decide (x126>0))) rfl) ?_
 rcases ic hz with ⟨hc128,hz⟩ | ⟨hc128,hz⟩<;>rw [hc128]
 refine Qk rfl rfl (Qe (.int .i64 y39) hT71_8) ?_
 obtain ⟨u129,hx130,hz⟩:=Qb hz
 obtain ⟨hx130a,hx130b⟩:=Qt hx130
 refine Qk rfl rfl (Za V1 rfl rfl hx130a hx130b) ?_
 obtain ⟨x131,hx132,hz⟩:=Qb hz
 refine Qk rfl rfl (Ql (.int .i64 x131) Z5 rfl (hS.bvB 0 rfl) (vp (k:=1) rfl rfl (rr hb93) hx132)) <|Qk rfl rfl (Yu rfl rfl) <|Qd (Zp (.bool (decide (x131>0))) rfl rfl) ?_
 refine Qf (Qa ?_)
 exact ⟨M70,(decide (x131>0)),hF123,hS,hT71_3,hT71_5,hT71_7,hT71_8,hT71_9,hT71_10,rfl,hT71_21,hT71_24,hT71_25,hT71_36,hT71_37,hT71_38,rfl,hz⟩
 refine Q2 5 rfl ?_
 refine Qf (Qa ?_)
 exact ⟨M70,false,hF123,hS,hT71_3,hT71_5,hT71_7,hT71_8,hT71_9,hT71_10,rfl,hT71_21,hT71_24,hT71_25,hT71_36,hT71_37,hT71_38,rfl,hz⟩
 rintro T97 w95 ⟨M96,c98,hx99,hS,hT97_3,hT97_5,hT97_7,hT97_8,hT97_9,hT97_10,hT97_12,hT97_21,hT97_24,hT97_25,hT97_36,hT97_37,hT97_38,hT97_51,hz⟩
 replace hb93:=Rep.mono hx99.1 hb93
 replace hF86:=Qc hF86 hx99
 rw [topSame_j3] at hz
 refine Qr hT97_51 (fun hc100 => ?_) (fun hc100 => ?_)
 replace hz:=Qn hz hc100
 refine Yt [.box b91 cs93 56] [] Z6 hS fun w101 hS hG102 hR103=>wy 0 rfl (Qe (.bool c72) hT97_9) (fun _=>hR103) <|wy 1 rfl (Qe (.bool c72) rfl) (fun _=>hR103) ?_
 rcases ic hz with ⟨hc104,hz⟩ | ⟨hc104,hz⟩<;>rw [hc104]
 refine Yg 2 (j:=1) rfl rfl rfl rfl (fun _=>hR103) <|Yg 3 (j:=1) rfl rfl rfl rfl (fun _=>hR103) <|Yg 4 (j:=1) rfl rfl rfl rfl (fun _=>hR103) <|Yg 5 (j:=1) rfl rfl rfl rfl (fun _=>hR103) <|Yg 6 (j:=1) rfl rfl rfl rfl (fun _=>hR103) <|Yg 7 (j:=1) rfl rfl rfl rfl (fun _=>hR103) <|Yg 8 (j:=1) rfl rfl rfl rfl (fun _=>hR103) <|wy 9 rfl (Zp (.bool true) rfl rfl) (fun _=>hR103) <|wy 10 rfl (Qe (.bool c73) hT97_10) (fun _=>hR103) <|wy 11 rfl (Qe (.bool c73) rfl) (fun _=>hR103) ?_
 rcases ic hz with ⟨hc105,hz⟩ | ⟨hc105,hz⟩<;>rw [hc105]
 refine Yg 12 (j:=11) rfl rfl rfl rfl (fun _=>hR103) <|Yg 13 (j:=11) rfl rfl rfl rfl (fun _=>hR103) <|Yg 14 (j:=11) rfl rfl rfl rfl (fun _=>hR103) <|Yg 15 (j:=11) rfl rfl rfl rfl (fun _=>hR103) <|Yg 16 (j:=11) rfl rfl rfl rfl (fun _=>hR103) <|Yg 17 (j:=11) rfl rfl rfl rfl (fun _=>hR103) <|Yg 18 (j:=11) rfl rfl rfl rfl (fun _=>hR103) <|wy 19 rfl (Zp (.bool true) rfl rfl) (fun _=>hR103) <|wy 20 rfl (Qj (.bool true) rfl) (fun _=>hR103) <|wy 21 rfl (Qj (.bool true) rfl) (fun _=>hR103) ?_
 refine wd (Q7 ?_)
 refine (Qa ?_)
 exact ⟨M96,true,true,hF86,(Yk hS hb91),hT97_3,hT97_5,hT97_7,hT97_8,rfl,rfl,hT97_21,hT97_24,hT97_25,hT97_36,hT97_37,hT97_38,hz⟩
 refine Vq 12 rfl rfl rfl (Qe (.int .i64 y23) hT97_7) (fun _=>hR103) ?_
 obtain ⟨u106,hx107,hz⟩:=Qb hz
 obtain ⟨hx107a,hx107b⟩:=Qt hx107
 refine Vq 13 rfl rfl rfl (Za V1 hT97_12 rfl hx107a hx107b) (fun _=>hR103) ?_
 obtain ⟨x108,hx109,hz⟩:=Qb hz
 refine Kh 14 rfl rfl rfl (Ql (.int .i64 x108) Z5 rfl (Ym 0 rfl) (vp (k:=1) rfl rfl (rr hb93) hx109)) hR103 <|Vq 15 rfl rfl rfl (Qe (.int .i64 y39) hT97_8) (fun _=>hR103) ?_
 obtain ⟨u110,hx111,hz⟩:=Qb hz
 obtain ⟨hx111a,hx111b⟩:=Qt hx111
 refine Vq 16 rfl rfl rfl (Za V1 hT97_12 rfl hx111a hx111b) (fun _=>hR103) ?_
 obtain ⟨x112,hx113,hz⟩:=Qb hz
 refine Kh 17 rfl rfl rfl (Ql (.int .i64 x112) Z5 rfl (Ym 0 rfl) (vp (k:=1) rfl rfl (rr hb93) hx113)) hR103 <|Vq 18 rfl rfl rfl (Yu rfl rfl) (fun _=>hR103) <|wy 19 rfl (Ze (.bool (decide (x108>x112))) rfl rfl) (fun _=>hR103) <|wy 20 rfl (Qj (.bool true) rfl) (fun _=>hR103) <|wy 21 rfl (Qj (.bool (decide (x108>x112))) rfl) (fun _=>hR103) ?_
 refine wd (Q7 ?_)
 refine (Qa ?_)
 exact ⟨M96,true,(decide (x108>x112)),hF86,(Yk hS hb91),hT97_3,hT97_5,hT97_7,hT97_8,rfl,rfl,hT97_21,hT97_24,hT97_25,hT97_36,hT97_37,hT97_38,hz⟩
 refine Vq 2 rfl rfl rfl (Qe (.int .i64 y23) hT97_7) (fun _=>hR103) ?_
 obtain ⟨u114,hx115,hz⟩:=Qb hz
 obtain ⟨hx115a,hx115b⟩:=Qt hx115
 refine Vq 3 rfl rfl rfl (Za V1 hT97_12 rfl hx115a hx115b) (fun _=>hR103) ?_
 obtain ⟨x116,hx117,hz⟩:=Qb hz
 refine Kh 4 rfl rfl rfl (Ql (.int .i64 x116) Z5 rfl (Ym 0 rfl) (vp (k:=1) rfl rfl (rr hb93) hx117)) hR103 <|Vq 5 rfl rfl rfl (Qe (.int .i64 y39) hT97_8) (fun _=>hR103) ?_
 obtain ⟨u118,hx119,hz⟩:=Qb hz
 obtain ⟨hx119a,hx119b⟩:=Qt hx119
 refine Vq 6 rfl rfl rfl (Za V1 hT97_12 rfl hx119a hx119b) (fun _=>hR103) ?_
 obtain ⟨x120,hx121,hz⟩:=Qb hz
 refine Kh 7 rfl rfl rfl (Ql (.int .i64 x120) Z5 rfl (Ym 0 rfl) (vp (k:=1) rfl rfl (rr hb93) hx121)) hR103 <|Vq 8 rfl rfl rfl (Zq rfl rfl) (fun _=>hR103) <|wy 9 rfl (Ze (.bool (decide (x116<x120))) rfl rfl) (fun _=>hR103) <|wy 10 rfl (Qe (.bool c73) hT97_10) (fun _=>hR103) <|wy 11 rfl (Qe (.bool c73) rfl) (fun _=>hR103) ?_
 rcases ic hz with ⟨hc122,hz⟩ | ⟨hc122,hz⟩<;>rw [hc122]
 refine Yg 12 (j:=11) rfl rfl rfl rfl (fun _=>hR103) <|Yg 13 (j:=11) rfl rfl rfl rfl (fun _=>hR103) <|Yg 14 (j:=11) rfl rfl rfl rfl (fun _=>hR103) <|Yg 15 (j:=11) rfl rfl rfl rfl (fun _=>hR103) <|Yg 16 (j:=11) rfl rfl rfl rfl (fun _=>hR103) <|Yg 17 (j:=11) rfl rfl rfl rfl (fun _=>hR103) <|Yg 18 (j:=11) rfl rfl rfl rfl (fun _=>hR103) <|wy 19 rfl (Zp (.bool true) rfl rfl) (fun _=>hR103) <|wy 20 rfl (Qj (.bool (decide (x116<x120))) rfl) (fun _=>hR103) <|wy 21 rfl (Qj (.bool true) rfl) (fun _=>hR103) ?_
 refine wd (Q7 ?_)
 refine (Qa ?_)
 exact ⟨M96,(decide (x116<x120)),true,hF86,(Yk hS hb91),hT97_3,hT97_5,hT97_7,hT97_8,rfl,rfl,hT97_21,hT97_24,hT97_25,hT97_36,hT97_37,hT97_38,hz⟩
 refine Vq 12 rfl rfl rfl (Qe (.int .i64 y23) hT97_7) (fun _=>hR103) ?_
 obtain ⟨u106,hx107,hz⟩:=Qb hz
 obtain ⟨hx107a,hx107b⟩:=Qt hx107
 refine Vq 13 rfl rfl rfl (Za V1 hT97_12 rfl hx107a hx107b) (fun _=>hR103) ?_
 obtain ⟨x108,hx109,hz⟩:=Qb hz
 refine Kh 14 rfl rfl rfl (Ql (.int .i64 x108) Z5 rfl (Ym 0 rfl) (vp (k:=1) rfl rfl (rr hb93) hx109)) hR103 <|Vq 15 rfl rfl rfl (Qe (.int .i64 y39) hT97_8) (fun _=>hR103) ?_
 obtain ⟨u110,hx111,hz⟩:=Qb hz
 obtain ⟨hx111a,hx111b⟩:=Qt hx111
 refine Vq 16 rfl rfl rfl (Za V1 hT97_12 rfl hx111a hx111b) (fun _=>hR103) ?_
 obtain ⟨x112,hx113,hz⟩:=Qb hz
 refine Kh 17 rfl rfl rfl (Ql (.int .i64 x112) Z5 rfl (Ym 0 rfl) (vp (k:=1) rfl rfl (rr hb93) hx113)) hR103 <|Vq 18 rfl rfl rfl (Yu rfl rfl) (fun _=>hR103) <|wy 19 rfl (Ze (.bool (decide (x108>x112))) rfl rfl) (fun _=>hR103) <|wy 20 rfl (Qj (.bool (decide (x116<x120))) rfl) (fun _=>hR103) <|wy 21 rfl (Qj (.bool (decide (x108>x112))) rfl) (fun _=>hR103) ?_
 refine wd (Q7 ?_)
 refine (Qa ?_)
 exact ⟨M96,(decide (x116<x120)),(decide (x108>x112)),hF86,(Yk hS hb91),hT97_3,hT97_5,hT97_7,hT97_8,rfl,rfl,hT97_21,hT97_24,hT97_25,hT97_36,hT97_37,hT97_38,hz⟩
 replace hz:=Qo hz hc100
 refine Qv (Q7 ?_)
 refine (Qa ?_)
 exact ⟨M96,c72,c73,hF86,(Yk hS hb91),hT97_3,hT97_5,hT97_7,hT97_8,hT97_9,hT97_10,hT97_21,hT97_24,hT97_25,hT97_36,hT97_37,hT97_38,hz⟩
 rintro T82 w80 ⟨M81,c83,c84,hx85,hS,hT82_3,hT82_5,hT82_7,hT82_8,hT82_9,hT82_10,hT82_21,hT82_24,hT82_25,hT82_36,hT82_37,hT82_38,hz⟩
 replace hF77:=Qc hF77 hx85
 rw [topSame_j2] at hz
 refine Qi <|Qd (Zz hT82_38 rfl) <|Qd (Qe (.int .i64 (IntKind.wrap .i64 (y74+1))) rfl) ?_
 refine Qf (Qa ?_)
 exact ⟨M81,c83,c84,(IntKind.wrap .i64 (y74+1)),hF77,hS,hT82_3,hT82_5,hT82_7,hT82_8,hT82_9,hT82_10,hT82_21,hT82_24,hT82_25,hT82_36,hT82_37,rfl,(by rw [← hrec75];exact hz)⟩
 replace hz:=Qo hz hc79
 refine Zs <|Q0 <|Q0 <|Zt ?_
 refine (Qa ?_)
 refine Qz (fun T' w' => ∃ M134 c136,Mm.ext w.heap.size noX M70 M134∧St w noX M134 [.box bP0_9 cs32 90,.box b7 k0_9 55,.box b3 k1_9 54,.row u2_9 56 32,.stk v34 9 1 xs35] w'∧T' 3 = .pointer (some ⟨b3,0,none⟩)∧T' 5 = .pointer (some ⟨bP0_9,0,none⟩)∧T' 7 = .int .i64 y23∧T' 21 = .int .i64 y23∧T' 24 = .int .i64 y23∧T' 25 = .int .i64 y39∧T' 76 = .bool c136∧topSame_j4 d33 l36 y39 rec40 c136=some r) ?_ ?_
 have hF139:=Qg w.heap.size noX M70
 refine Qi <|Qd (Qe (.bool c72) hT71_9) <|Qd (Qe (.bool c72) rfl) ?_
 rcases ic hz with ⟨hc140,hz⟩ | ⟨hc140,hz⟩<;>rw [hc140]
 refine Qk rfl rfl (Qe (.bool c73) hT71_10) <|Qd (Zp (.bool c73) rfl rfl) ?_
 refine Qf (Qa ?_)
 exact ⟨M70,c73,hF139,hS,hT71_3,hT71_5,hT71_7,hT71_21,hT71_24,hT71_25,rfl,hz⟩
 refine Q2 2 rfl ?_
 refine Qf (Qa ?_)
 exact ⟨M70,false,hF139,hS,hT71_3,hT71_5,hT71_7,hT71_21,hT71_24,hT71_25,rfl,hz⟩
 rintro T135 w133 ⟨M134,c136,hx137,hS,hT135_3,hT135_5,hT135_7,hT135_21,hT135_24,hT135_25,hT135_76,hz⟩
 replace hb32:=Rep.mono hx137.1 hb32
 replace hk37:=Zm hx137.1 hk37
 replace hF56:=Qc hF56 hx137
 rw [topSame_j4] at hz
 refine Qr hT135_76 (fun hc138 => ?_) (fun hc138 => ?_)
 replace hz:=Qn hz hc138
 refine Qh <|Qi <|Qd (Qj (.bool false) rfl) ?_
 refine Qf (Qa ?_)
 cases hz
 exact Q4 (Zi (Qs (Qs (Zi (Zi (Qs (Qs (Zi (Qs (Yj rfl rfl ⟨rfl,(Qm (Qm (Qm (Qm (Qm hS))))).kept⟩))))))))))
 replace hz:=Qo hz hc138
 refine Qv (Q7 ?_)
 refine (Qa ?_)
 exact ⟨M134,cs32,d33,v34,xs35,l36,hF56,(hS.sel (H':=[.box b7 k0_9 55,.box b3 k1_9 54,.row u2_9 56 32,.box bP0_9 cs32 90,.stk v34 9 1 xs35]) [1,2,3,0,4] (by decide) rfl),hb32,hk37,hp38,hT135_3,hT135_5,hT135_7,hT135_21,hT135_24,hT135_25,hz⟩
 rintro T47 w45 ⟨M46,cs48,d49,v50,xs51,l52,hx55,hS,hb48,hk53,hp54,hT47_3,hT47_5,hT47_7,hT47_21,hT47_24,hT47_25,hz⟩
 replace hF42:=Qc hF42 hx55
 rw [topSame_j1] at hz
 refine Qi <|Qd (Zz hT47_25 rfl) <|Qd (Qe (.int .i64 (IntKind.wrap .i64 (y39+1))) rfl) ?_
 refine Qf (Qa ?_)
 exact ⟨M46,cs48,d49,v50,xs51,l52,(IntKind.wrap .i64 (y39+1)),hF42,hS,hb48,hk53,hp54,hT47_3,hT47_5,hT47_7,hT47_21,hT47_24,rfl,(by rw [← hrec40];exact hz)⟩
 replace hz:=Qo hz hc44
 refine Zs <|Q0 <|Q0 <|Zt ?_
 refine (Q7 ?_)
 refine (Qa ?_)
 refine Qi <|Qd (Zz hT31_21 rfl) <|Qd (Qe (.int .i64 (IntKind.wrap .i64 (y23+1))) rfl) ?_
 refine Qf (Qa ?_)
 exact ⟨M30,cs32,d33,v34,xs35,l36,(IntKind.wrap .i64 (y23+1)),hF26,hS,hb32,hk37,hp38,hT31_3,hT31_5,rfl,(by rw [← hrec24];exact hz)⟩
 replace hz:=Qo hz hc28
 refine Zs <|Q0 <|Q0 <|Zt ?_
 refine (Qa ?_)
 refine Qh <|Qi <|Qd (Qj (.bool true) rfl) ?_
 refine Qf (Qa ?_)
 cases hz
 exact Q4 (Yj rfl rfl ⟨rfl,(Qm (Qm (Qm (Qm (Qm hS))))).kept⟩)
end Go.Proofs.Yteilffoclpgijaa
namespace Go.Proofs.Yteilffoclpgijaa
open Go.RowKit
theorem i64_or_nat (a b:Nat) (ha:a<4611686018427387904) (hb:b<4611686018427387904) (h:a ||| b<9223372036854775808):bits .or .i64 (a:Int) (b:Int)=((a ||| b:Nat):Int):=by
  show IntKind.i64.wrap ((BitVec.ofInt 64 (a:Int) ||| BitVec.ofInt 64 (b:Int)).toNat:Int)=_
  rw [BitVec.ofInt_natCast,BitVec.ofInt_natCast,BitVec.toNat_or,BitVec.toNat_ofNat,BitVec.toNat_ofNat,Nat.mod_eq_of_lt (by omega),Nat.mod_eq_of_lt (by omega)]
  exact IntWalk.i64_in _ (by omega)
theorem or_bytes (a b:Nat) (ha:a<4611686018427387904 / 256) (hb:b<256):bits .or .i64 ((a:Int)*256) (b:Int)=(a:Int)*256+b:=by
  have h:=Nat.two_pow_add_eq_or_of_lt (i:=8) (b:=b) (by omega) a
  have e:((a*256:Nat):Int)=(a:Int)*256:=by omega
  rw [← e,i64_or_nat _ _ (by omega) (by omega) (by rw [Nat.mul_comm];rw [show (256:Nat)=2 ^ 8 from rfl,← h];omega)]
  rw [Nat.mul_comm,show (256:Nat)=2 ^ 8 from rfl,← h]
  omega
end Go.Proofs.Yteilffoclpgijaa
namespace Go.Proofs.Yteilffoclpgijaa
open Go.RowKit
def RTexts (S:Nat→Prop) (w:World) (v:Value) (l:List ByteArray):Prop:=RRow S w v 1 16 l.length (l.map Value.string)
def recN (a b:UInt8):Nat:=a.toNat*256+b.toNat
def readL (l:List UInt8):List ByteArray × Nat :=
  match l with
  | a::b::r =>
    if 1≤recN a b∧recN a b≤400∧recN a b≤r.length then
      (⟨(r.take (recN a b)).toArray⟩::(readL (r.drop (recN a b))).1,2+recN a b+(readL (r.drop (recN a b))).2)
    else ([],0)
  | _=>([],0)
termination_by l.length
decreasing_by all_goals (simp only [List.length_cons,List.length_drop];omega)
theorem readL_stop {a b:UInt8} {r:List UInt8} (h : ¬ (1≤recN a b∧recN a b≤400∧recN a b≤r.length)):readL (a::b::r)=([],0):=by
  rw [readL,if_neg h]
theorem readL_go {a b:UInt8} {r:List UInt8} (h:1≤recN a b∧recN a b≤400∧recN a b≤r.length) :
    readL (a::b::r)=(⟨(r.take (recN a b)).toArray⟩::(readL (r.drop (recN a b))).1,2+recN a b+(readL (r.drop (recN a b))).2):=by
  rw [readL,if_pos h]
theorem readL_short {l:List UInt8} (h:l.length<2):readL l=([],0):=by
  match l,h with
  | [],_=>rw [readL];intro a b r h;cases h
  | [x],_=>rw [readL];intro a b r h;cases h
def ReadTo (log:ByteArray) (acc:List ByteArray) (k:Nat):Prop :=
  (readL log.data.toList).1=acc++(readL (log.data.toList.drop k)).1∧(readL log.data.toList).2=k+(readL (log.data.toList.drop k)).2∧acc.length≤k
theorem readTo_zero (log:ByteArray):ReadTo log [] 0:=by simp [ReadTo]
theorem drop_two {log:ByteArray} {k:Nat} (h:k+2≤log.size):log.data.toList.drop k=log[k]::log[k+1]::log.data.toList.drop (k+2):=by
  have hl:log.data.toList.length=log.size:=rfl
  rw [List.drop_eq_getElem_cons (by omega),List.drop_eq_getElem_cons (by omega)]
  rfl
theorem readTo_next {log:ByteArray} {acc:List ByteArray} {k:Nat} (h:ReadTo log acc k) (hk:k+2≤log.size)
    (hn:1≤recN log[k] log[k+1]∧recN log[k] log[k+1]≤400∧recN log[k] log[k+1]≤log.size-k-2) :
    ReadTo log (acc++[log.extract (k+2) (k+2+recN log[k] log[k+1])]) (k+(2+recN log[k] log[k+1])):=by
  obtain ⟨h1,h2,h3⟩:=h
  have hl:log.data.toList.length=log.size:=rfl
  rw [drop_two hk,readL_go (by rw [List.length_drop,hl];omega),List.drop_drop] at h1 h2
  have he:log.extract (k+2) (k+2+recN log[k] log[k+1])=⟨(List.take (recN log[k] log[k+1]) (List.drop (k+2) log.data.toList)).toArray⟩:=by
    apply str_ext
    rw [Go.Lib.extract_data]
    simp
  have e2:k+2+recN log[k] log[k+1]=k+(2+recN log[k] log[k+1]):=by omega
  rw [e2] at h1 h2
  refine ⟨?_,by omega,by simp;omega⟩
  rw [h1,← e2,he]
  simp
theorem readTo_end {log:ByteArray} {acc:List ByteArray} {k:Nat} (h:ReadTo log acc k) (he:readL (log.data.toList.drop k)=([],0)):readL log.data.toList=(acc,k):=by
  obtain ⟨h1,h2,_⟩:=h
  rw [he] at h1 h2
  simp at h1 h2
  rw [← h1,← h2]
end Go.Proofs.Yteilffoclpgijaa
namespace Go.Proofs.Yteilffoclpgijaa
open Go.RowKit
theorem RTexts.shape {S:Nat→Prop} {w:World} {v:Value} {l:List ByteArray} (h:RTexts S w v l) : ∃ a cap,v = .slice a l.length cap∧l.length≤17592186043904:=by
  obtain ⟨a,cap,he,h1,h2,h3,h4,h5⟩:=h
  exact ⟨a,cap,he,by omega⟩
theorem RTexts.later {S:Nat→Prop} {w w':World} {v:Value} {l:List ByteArray} (h:RTexts S w v l) (hb:Below w.heap.size w w'):RTexts S w' v l:=RRow.later h hb
theorem RTexts.at {S:Nat→Prop} {w:World} {a:Option Addr} {n cap:Nat} {l:List ByteArray} (h:RTexts S w (.slice a n cap) l) {k:Nat} {x:ByteArray} (hx:l[k]? = some x) :
    ∃ b off,a=some ⟨b,off,none⟩∧S b∧b<w.heap.size∧w.cell? ⟨b,off+k,none⟩=some (.string x):=by
  obtain ⟨a',cap',he,h1,h2,h3,h4,h5⟩:=h
  cases he
  obtain ⟨b,off,ha,hb,hc⟩:=h5 k (.string x) (by simp [hx])
  exact ⟨b,off,ha,hb,cell_lt hc,hc⟩
end Go.Proofs.Yteilffoclpgijaa
namespace Go.Proofs.Yteilffoclpgijaa
open Go.RowKit
theorem readL_append : ∀ (n:Nat) (l m:List UInt8),l.length≤n→(readL l).2=l.length→readL (l++m)=((readL l).1++(readL m).1,l.length+(readL m).2):=by
  intro n
  induction n with
  | zero =>
    intro l m hl h
    have:l=[]:=List.eq_nil_of_length_eq_zero (by omega)
    subst this
    rw [readL_short (l:=[]) (by decide)]
    simp
  | succ n ih =>
    intro l m hl h
    match l with
    | [] =>
      rw [readL_short (l:=[]) (by decide)]
      simp
    | [x] =>
      rw [readL_short (l:=[x]) (by simp)] at h
      simp at h
    | a::b::r =>
      by_cases hc:1≤recN a b∧recN a b≤400∧recN a b≤r.length
      · rw [readL_go hc] at h ⊢
        simp only [List.length_cons] at h hl
        have hd:(readL (r.drop (recN a b))).2=(r.drop (recN a b)).length:=by rw [List.length_drop];omega
        have hih:=ih (r.drop (recN a b)) m (by rw [List.length_drop];omega) hd
        have hc2:1≤recN a b∧recN a b≤400∧recN a b≤(r++m).length:=by rw [List.length_append];omega
        show readL (a::b::(r++m))=_
        rw [readL_go hc2,List.take_append_of_le_length hc.2.2,List.drop_append_of_le_length hc.2.2,hih]
        simp only [List.cons_append,List.length_cons,Prod.mk.injEq,true_and,List.length_drop]
        omega
      · rw [readL_stop hc] at h
        simp at h
def recL (s:ByteArray):List UInt8:=UInt8.ofNat (s.size / 256)::UInt8.ofNat (s.size%256)::s.data.toList
theorem recN_of (s:ByteArray) (h:s.size≤400):recN (UInt8.ofNat (s.size / 256)) (UInt8.ofNat (s.size%256))=s.size:=by
  unfold recN
  simp only [UInt8.toNat_ofNat']
  omega
theorem wtext_data (log s:ByteArray) (h:s.size≤400):(wtext log s).data.toList=log.data.toList++recL s:=by
  unfold wtext recL
  simp only [data_append,strOfNums_data,List.map_cons,List.map_nil]
  rw [show ((s.size:Int) / 256).toNat=s.size / 256 by omega,show ((s.size:Int)%256).toNat=s.size%256 by omega]
  simp
theorem recL_len (s:ByteArray):(recL s).length=s.size+2:=by
  have:s.data.toList.length=s.size:=rfl
  simp [recL]
theorem readL_rec (s:ByteArray) (h1:1≤s.size) (h2:s.size≤400):readL (recL s)=([s],s.size+2):=by
  have hl:s.data.toList.length=s.size:=rfl
  have hn:=recN_of s h2
  unfold recL
  rw [readL_go (by rw [hn,hl];omega),hn,← hl,List.take_length,List.drop_length,readL_short (l:=[]) (by decide)]
  simp only [Prod.mk.injEq]
  refine ⟨?_,by omega⟩
  first | rfl | trivial
theorem readL_torn (s:ByteArray) (h2:s.size≤400) (t:Nat) (ht:t<s.size+2):readL ((recL s).take t)=([],0):=by
  have hl:s.data.toList.length=s.size:=rfl
  have hn:=recN_of s h2
  unfold recL
  match t,ht with
  | 0,_=>exact readL_short (by simp)
  | 1,_=>exact readL_short (by simp)
  | t+2,ht =>
    simp only [List.take_succ_cons]
    exact readL_stop (by rw [hn,List.length_take,hl];omega)
def Whole (log:ByteArray) (want:List ByteArray):Prop:=readL log.data.toList=(want,log.size)
theorem whole_next {log:ByteArray} {want:List ByteArray} (h:Whole log want) (s:ByteArray) (h1:1≤s.size) (h2:s.size≤400):Whole (wtext log s) (want++[s]):=by
  unfold Whole at *
  have hl:log.data.toList.length=log.size:=rfl
  rw [wtext_data _ _ h2,readL_append _ _ _ (Nat.le_refl _) (by rw [h,hl]),h,readL_rec s h1 h2,wtext_size,hl]
  simp only [Prod.mk.injEq,true_and]
  omega
theorem whole_tear {log:ByteArray} {want:List ByteArray} (h:Whole log want) (s:ByteArray) (n:Int) (h1:1≤s.size) (h2:s.size≤400) (hc:wcode log s=0) :
    readL (tearZ log s n).data.toList=(if (s.size:Int)+2≤n then (want++[s],log.size+(s.size+2)) else (want,log.size))∧(tearZ log s n).size=log.size+tornLen s n:=by
  have hl:log.data.toList.length=log.size:=rfl
  have ht:tornLen s n≤s.size+2:=by unfold tornLen;split<;>(try split)<;>omega
  have hd:(tearZ log s n).data.toList=log.data.toList++(recL s).take (tornLen s n):=by
    unfold tearZ
    rw [if_pos hc,Go.Lib.extract_data,wtext_data _ _ h2,List.drop_zero,Nat.sub_zero,List.take_append,hl,List.take_of_length_le (by omega)]
    congr 2
    omega
  have hsz:(tearZ log s n).size=log.size+tornLen s n:=by
    have:(tearZ log s n).data.toList.length=(tearZ log s n).size:=rfl
    rw [← this,hd,List.length_append,List.length_take,recL_len,hl]
    omega
  refine ⟨?_,hsz⟩
  rw [hd,readL_append _ _ _ (Nat.le_refl _) (by unfold Whole at h;rw [h,hl])]
  unfold Whole at h
  rw [h,hl]
  split
  · rename_i hn
    have:tornLen s n=s.size+2:=by unfold tornLen;split<;>(try split)<;>omega
    rw [this,← recL_len,List.take_length,readL_rec s h1 h2,recL_len]
  · rename_i hn
    rw [readL_torn s h2 _ (by unfold tornLen;split<;>(try split)<;>omega)]
    simp
end Go.Proofs.Yteilffoclpgijaa
namespace Go.Proofs.Yteilffoclpgijaa
open Go.RowKit
open Rep (rep)
theorem number_step (z:Int) (n:Nat) (l:List Byt) (j:Nat) (hj:j<6) (hl:l.length≤1000000) (h1 : -1099511627776≤z) (h2:z≤1099511627776) :
    number_l1 z (n+1) l (j:Int)=number_l1 z n (l++[⟨(z+140737488355328) / ((256 ^ j:Nat):Int)%256⟩]) ((j:Int)-1):=by
  rw [number_l1]
  have hw:IntKind.wrap .i64 (z+140737488355328)=z+140737488355328:=wr64 (by omega) (by omega)
  have h8:IntKind.wrap .u64 (8*IntKind.wrap .u64 (j:Int))=8*(j:Int):=by rw [wrU64 (x:=(j:Int)) (by omega) (by omega),wrU64 (by omega) (by omega)]
  have hs:IntKind.wrap .i64 ((j:Int)-1)=(j:Int)-1:=wr64 (by omega) (by omega)
  have hb:IntKind.bits .i64=64:=rfl
  rw [bif_t (dec_t (by omega)),hw,h8,hs,hb,nonneg_ok (by omega),some_bind,wr8,app_ok (by simp [Rep.bytes];omega),some_bind]
  have ht:Int.toNat (8*(j:Int))=8*j:=by omega
  have hm:min (8*j) 64=8*j:=by omega
  have hp:((2:Int) ^ (8*j))=((256 ^ j:Nat):Int):=by rw [Int.pow_mul];norm_cast
  rw [ht,hm,hp,Int.fdiv_eq_ediv_of_nonneg _ (Int.natCast_nonneg _)]
theorem numberD_eq {fu:Nat} {z:Int} {l:List Byt} (hf:7≤fu) (hl:l.length≤100000) (h1 : -1099511627776≤z) (h2:z≤1099511627776):numberD fu l z=some (l++(sixZ z).map Byt.mk):=by
  obtain ⟨n,rfl⟩ : ∃ n,fu=n+7:=⟨fu-7,by omega⟩
  unfold numberD
  have e5:=number_step z (n+6) l 5 (by omega) (by omega) h1 h2
  have e4:=fun m=>number_step z (n+5) m 4 (by omega)
  have e3:=fun m=>number_step z (n+4) m 3 (by omega)
  have e2:=fun m=>number_step z (n+3) m 2 (by omega)
  have e1:=fun m=>number_step z (n+2) m 1 (by omega)
  have e0:=fun m=>number_step z (n+1) m 0 (by omega)
  have q5:((5:Nat):Int)=5:=rfl
  have q4:((4:Nat):Int)=4:=rfl
  have q3:((3:Nat):Int)=3:=rfl
  have q2:((2:Nat):Int)=2:=rfl
  have q1:((1:Nat):Int)=1:=rfl
  have q0:((0:Nat):Int)=0:=rfl
  rw [q5] at e5
  simp only [q4,q3,q2,q1,q0] at e4 e3 e2 e1 e0
  rw [e5,show (5:Int)-1=4 from rfl,e4 _ (by simp;omega) h1 h2,show (4:Int)-1=3 from rfl,e3 _ (by simp;omega) h1 h2,show (3:Int)-1=2 from rfl,e2 _ (by simp;omega) h1 h2,show (2:Int)-1=1 from rfl,e1 _ (by simp;omega) h1 h2,show (1:Int)-1=0 from rfl,e0 _ (by simp;omega) h1 h2]
  rw [number_l1,bif_f (dec_f (by omega))]
  simp only [List.append_assoc,List.cons_append,List.nil_append,sixZ,List.map_cons,List.map_nil]
  rw [show ((256 ^ 5:Nat):Int)=1099511627776 from rfl,show ((256 ^ 4:Nat):Int)=4294967296 from rfl,show ((256 ^ 3:Nat):Int)=16777216 from rfl,show ((256 ^ 2:Nat):Int)=65536 from rfl,show ((256 ^ 1:Nat):Int)=256 from rfl,Int.ediv_one]
structure FOk (f:GFrame):Prop where
  ops:f.ops.length≤4
  op : ∀ o∈f.ops,0≤o.kind∧o.kind<256∧0≤o.key∧o.key<256 ∧ -1099511627776≤o.n∧o.n≤1099511627776
  deps:f.deps.length≤32
  dep : ∀ n∈f.deps,0≤n∧n<32
  at_:f.at_.length≤4
  ats : ∀ n∈f.at_,0≤n∧n<4
  vals:f.vals.length=f.at_.length
  val : ∀ v∈f.vals,-1099511627776≤v∧v≤1099511627776
  head:0≤f.kind∧f.kind<256∧0≤f.node∧f.node<256∧0≤f.id∧f.id<256
def opBytes (o:GOp):List Int:=o.kind::o.key::sixZ o.n
def valBytes (p:Int × Int):List Int:=p.1::sixZ p.2
def encZ (f:GFrame):List Int :=
  [f.kind,f.node,f.id,f.ops.length]++(f.ops.flatMap opBytes++([(f.deps.length:Int)]++(f.deps++([(f.at_.length:Int)]++(f.at_.zip f.vals).flatMap valBytes))))
theorem sixZ_len (z:Int):(sixZ z).length=6:=rfl
theorem byts (l:List Int):(l.map Byt.mk).map Byt.val=l:=by induction l with | nil=>rfl | cons x t ih=>rw [List.map_cons,List.map_cons,ih]
theorem enc_l3 (f:GFrame) (hf:FOk f) (fu:Nat) (hfu:7≤fu) : ∀ (ra rv:List Int) (k n:Nat) (l:List Byt),f.at_.drop k=ra→f.vals.drop k=rv→ra.length<n→l.length+7*ra.length≤90000→k≤f.at_.length →
    encode_l3 fu f n l (k:Int)=some (strOfNums (l.map Byt.val++(ra.zip rv).flatMap valBytes),0):=by
  intro ra
  induction ra with
  | nil =>
    intro rv k n l ha hv hn hl hk
    obtain ⟨n,rfl⟩ : ∃ m,n=m+1:=⟨n-1,by simp at hn;omega⟩
    have:f.at_.length≤k:=by have:=congrArg List.length ha;simp at this;omega
    rw [encode_l3,bif_f (dec_f (by omega))]
    simp
  | cons a t ih =>
    intro rv k n l ha hv hn hl hk
    obtain ⟨n,rfl⟩ : ∃ m,n=m+1:=⟨n-1,by simp at hn;omega⟩
    have hk2:k<f.at_.length:=by have:=congrArg List.length ha;simp at this;omega
    have hga:f.at_[k]? = some a:=by have:=congrArg (fun x:List Int=>x[0]?) ha;simpa using this
    cases rv with
    | nil=>have:=congrArg List.length hv;simp at this;have:=hf.vals;omega
    | cons v u =>
      have hgv:f.vals[k]? = some v:=by have:=congrArg (fun x:List Int=>x[0]?) hv;simpa using this
      have ha2:f.at_.drop (k+1)=t:=by rw [← List.tail_drop,ha];rfl
      have hv2:f.vals.drop (k+1)=u:=by rw [← List.tail_drop,hv];rfl
      have hv3:=hf.val v (List.mem_of_getElem? hgv)
      have ha3:=hf.ats a (List.mem_of_getElem? hga)
      have h4:=hf.at_
      simp only [List.length_cons] at hl hn
      rw [encode_l3,bif_t (dec_t (by omega)),idx_nat,hga,some_bind,idx_nat,hgv,some_bind,app_ok (by simp [Rep.bytes];omega),some_bind,numberD_eq hfu (by simp;omega) hv3.1 hv3.2,some_bind,
        wr64 (by omega) (by omega),show (k:Int)+1=((k+1:Nat):Int) from rfl,ih u (k+1) n _ ha2 hv2 (by omega) (by simp [sixZ_len];omega) (by omega)]
      congr 3
      simp only [List.map_append,byts,wr8,List.zip_cons_cons,List.flatMap_cons,valBytes,List.map_cons,List.map_nil,List.append_assoc,List.cons_append,List.nil_append]
      rw [Int.emod_eq_of_lt ha3.1 (by omega)]
theorem enc_l2 (f:GFrame) (hf:FOk f) (fu:Nat) (hfu:40≤fu) : ∀ (ra:List Int) (k n:Nat) (l:List Byt),f.deps.drop k=ra→ra.length<n→l.length+ra.length≤80000→k≤f.deps.length →
    encode_l2 fu f n l (k:Int)=some (strOfNums (l.map Byt.val++(ra++([(f.at_.length:Int)]++(f.at_.zip f.vals).flatMap valBytes))),0):=by
  intro ra
  induction ra with
  | nil =>
    intro k n l ha hn hl hk
    obtain ⟨n,rfl⟩ : ∃ m,n=m+1:=⟨n-1,by simp at hn;omega⟩
    have:f.deps.length≤k:=by have:=congrArg List.length ha;simp at this;omega
    have h4:=hf.at_
    simp only [List.length_nil] at hl
    rw [encode_l2,bif_f (dec_f (by omega)),app_ok (by simp [Rep.bytes];omega),some_bind,show (0:Int)=((0:Nat):Int) from rfl,enc_l3 f hf fu (by omega) f.at_ f.vals 0 fu _ rfl rfl (by omega) (by simp;omega) (by omega)]
    congr 3
    simp only [List.map_append,wr8,List.map_cons,List.map_nil,List.append_assoc,List.nil_append]
    rw [Int.emod_eq_of_lt (by omega) (by omega)]
  | cons a t ih =>
    intro k n l ha hn hl hk
    obtain ⟨n,rfl⟩ : ∃ m,n=m+1:=⟨n-1,by simp at hn;omega⟩
    have hk2:k<f.deps.length:=by have:=congrArg List.length ha;simp at this;omega
    have hga:f.deps[k]? = some a:=by have:=congrArg (fun x:List Int=>x[0]?) ha;simpa using this
    have ha2:f.deps.drop (k+1)=t:=by rw [← List.tail_drop,ha];rfl
    have ha3:=hf.dep a (List.mem_of_getElem? hga)
    have h32:=hf.deps
    simp only [List.length_cons] at hl hn
    rw [encode_l2,bif_t (dec_t (by omega)),idx_nat,hga,some_bind,app_ok (by simp [Rep.bytes];omega),some_bind,wr64 (by omega) (by omega),show (k:Int)+1=((k+1:Nat):Int) from rfl,ih (k+1) n _ ha2 (by omega) (by simp;omega) (by omega)]
    congr 3
    simp only [List.map_append,wr8,List.map_cons,List.map_nil,List.append_assoc,List.cons_append,List.nil_append]
    rw [Int.emod_eq_of_lt ha3.1 (by omega)]
theorem enc_l1 (f:GFrame) (hf:FOk f) (fu:Nat) (hfu:40≤fu) : ∀ (ra:List GOp) (k n:Nat) (l:List Byt),f.ops.drop k=ra→ra.length<n→l.length+8*ra.length≤70000→k≤f.ops.length →
    encode_l1 fu f n l (k:Int)=some (strOfNums (l.map Byt.val++(ra.flatMap opBytes++([(f.deps.length:Int)]++(f.deps++([(f.at_.length:Int)]++(f.at_.zip f.vals).flatMap valBytes))))),0):=by
  intro ra
  induction ra with
  | nil =>
    intro k n l ha hn hl hk
    obtain ⟨n,rfl⟩ : ∃ m,n=m+1:=⟨n-1,by simp at hn;omega⟩
    have:f.ops.length≤k:=by have:=congrArg List.length ha;simp at this;omega
    have h4:=hf.deps
    simp only [List.length_nil] at hl
    rw [encode_l1,bif_f (dec_f (by omega)),app_ok (by simp [Rep.bytes];omega),some_bind,show (0:Int)=((0:Nat):Int) from rfl,enc_l2 f hf fu hfu f.deps 0 fu _ rfl (by omega) (by simp;omega) (by omega)]
    congr 3
    simp only [List.map_append,wr8,List.map_cons,List.map_nil,List.append_assoc,List.nil_append,List.flatMap_nil]
    rw [Int.emod_eq_of_lt (by omega) (by omega)]
  | cons a t ih =>
    intro k n l ha hn hl hk
    obtain ⟨n,rfl⟩ : ∃ m,n=m+1:=⟨n-1,by simp at hn;omega⟩
    have hk2:k<f.ops.length:=by have:=congrArg List.length ha;simp at this;omega
    have hga:f.ops[k]? = some a:=by have:=congrArg (fun x:List GOp=>x[0]?) ha;simpa using this
    have ha2:f.ops.drop (k+1)=t:=by rw [← List.tail_drop,ha];rfl
    obtain ⟨b1,b2,b3,b4,b5,b6⟩:=hf.op a (List.mem_of_getElem? hga)
    have h4:=hf.ops
    simp only [List.length_cons] at hl hn
    rw [encode_l1,bif_t (dec_t (by omega)),idx_nat,hga,some_bind,some_bind,app_ok (by simp [Rep.bytes];omega),some_bind,numberD_eq (by omega) (by simp;omega) b5 b6,some_bind,
      wr64 (by omega) (by omega),show (k:Int)+1=((k+1:Nat):Int) from rfl,ih (k+1) n _ ha2 (by omega) (by simp [sixZ_len];omega) (by omega)]
    congr 3
    simp only [List.map_append,byts,wr8,List.flatMap_cons,opBytes,List.map_cons,List.map_nil,List.append_assoc,List.cons_append,List.nil_append]
    rw [Int.emod_eq_of_lt b1 b2,Int.emod_eq_of_lt b3 b4]
theorem encodeD_ok {f:GFrame} (hf:FOk f) (h0:frameZ f=0) {fu:Nat} (hfu:40≤fu):encodeD fu f=some (strOfNums (encZ f),0):=by
  unfold encodeD
  have h4:=hf.ops
  obtain ⟨b1,b2,b3,b4,b5,b6⟩:=hf.head
  rw [some_bind,h0,bif_f (by decide),show (0:Int)=((0:Nat):Int) from rfl,enc_l1 f hf fu hfu f.ops 0 fu _ rfl (by omega) (by simp;omega) (by omega)]
  congr 3
  simp only [encZ,wr8,List.map_cons,List.map_nil]
  rw [Int.emod_eq_of_lt b1 b2,Int.emod_eq_of_lt b3 b4,Int.emod_eq_of_lt b5 b6,Int.emod_eq_of_lt (by omega) (by omega)]
theorem encodeD_no {f:GFrame} (h0:frameZ f≠0) {fu:Nat}:encodeD fu f=some (strOfNums [],frameZ f):=by
  unfold encodeD
  rw [some_bind,bif_t (by simpa using h0)]
  rfl
end Go.Proofs.Yteilffoclpgijaa
namespace Go.Proofs.Yteilffoclpgijaa
open Go.RowKit
open Rep (rep)
theorem rising_ge {l:List Int} (h:risingZ l=true) : ∀ i,i<l.length→(i:Int)≤l.getD i 0∧l.getD i 0<32:=by
  unfold risingZ at h
  rw [allTo_iff] at h
  intro i
  induction i with
  | zero =>
    intro hi
    have:=h 0 hi
    unfold riseAt at this
    simp only [Bool.and_eq_true,decide_eq_true_eq] at this
    exact ⟨by have:=this.1.1;simpa using this,this.1.2⟩
  | succ i ih =>
    intro hi
    have h1:=ih (by omega)
    have:=h (i+1) hi
    unfold riseAt at this
    simp only [Bool.and_eq_true,decide_eq_true_eq,Bool.or_eq_true,beq_iff_eq,Nat.add_sub_cancel] at this
    refine ⟨?_,this.1.2⟩
    rcases this.2 with h2 | h2
    · omega
    · push_cast
      omega
theorem rising_len {l:List Int} (h:risingZ l=true):l.length≤32:=by
  rcases Nat.lt_or_ge 32 l.length with h1 | h1
  · have:=rising_ge h 32 h1
    omega
  · exact h1
theorem rising_mem {l:List Int} (h:risingZ l=true) : ∀ n∈l,0≤n∧n<32:=by
  intro n hn
  obtain ⟨i,hi,rfl⟩:=List.getElem_of_mem hn
  have:=rising_ge h i hi
  rw [List.getD_eq_getElem?_getD,List.getElem?_eq_getElem hi] at this
  simp only [Option.getD_some] at this
  omega
theorem goodOps_len {l:List GOp} (h:goodOpsZ l=true):0<l.length∧l.length≤4:=by
  unfold goodOpsZ at h
  simp only [Bool.and_eq_true,decide_eq_true_eq] at h
  omega
theorem goodOps_mem {l:List GOp} (h:goodOpsZ l=true) : ∀ o∈l,1≤o.kind∧o.kind≤3∧0≤o.key∧o.key<8 ∧ -1099511627776≤o.n∧o.n≤1099511627776:=by
  intro o ho
  unfold goodOpsZ at h
  simp only [Bool.and_eq_true] at h
  have h1:=(allTo_iff _ _).1 h.1
  obtain ⟨i,hi,rfl⟩:=List.getElem_of_mem ho
  have:=h1 i hi
  unfold opAt at this
  rw [List.getD_eq_getElem?_getD,List.getElem?_eq_getElem hi] at this
  simp only [Option.getD_some,Bool.and_eq_true] at this
  have:=this.1
  unfold goodOp at this
  simp only [decide_eq_true_eq] at this
  omega
theorem FOk_of {f:GFrame} (h:frameZ f=0):FOk f:=by
  unfold frameZ at h
  split at h
  · cases h
  · rename_i hk
    split at h
    · cases h
    · rename_i hn
      split at h
      · rename_i hp
        simp only [Bool.and_eq_true] at hp
        obtain ⟨h1,h2,h3⟩:=hp
        have ho:f.ops.length≤4 ∧ ∀ o∈f.ops,0≤o.kind∧o.kind<256∧0≤o.key∧o.key<256 ∧ -1099511627776≤o.n∧o.n≤1099511627776:=by
          unfold opsPart at h1
          split at h1
          · refine ⟨(goodOps_len h1).2,fun o ho => ?_⟩
            have:=goodOps_mem h1 o ho
            omega
          · have:f.ops=[]:=List.length_eq_zero_iff.1 (by simpa using h1)
            rw [this]
            simp
        have hd:f.deps.length≤32 ∧ ∀ n∈f.deps,0≤n∧n<32:=by
          unfold depsPart at h2
          split at h2
          · simp only [Bool.and_eq_true] at h2
            exact ⟨rising_len h2.1,rising_mem h2.1⟩
          · have:f.deps=[]:=List.length_eq_zero_iff.1 (by simpa using h2)
            rw [this]
            simp
        unfold atPart at h3
        simp only [Bool.and_eq_true,beq_iff_eq] at h3
        obtain ⟨_,h4,h5,h6⟩:=h3
        rw [allTo_iff] at h5 h6
        have ha : ∀ i,i<f.at_.length→(i:Int)≤f.at_.getD i 0∧f.at_.getD i 0<4:=by
          intro i
          induction i with
          | zero =>
            intro hi
            have:=h5 0 hi
            unfold atAt at this
            simp only [Bool.and_eq_true,decide_eq_true_eq] at this
            exact ⟨by have:=this.1.1;simpa using this,this.1.2⟩
          | succ i ih =>
            intro hi
            have e1:=ih (by omega)
            have:=h5 (i+1) hi
            unfold atAt at this
            simp only [Bool.and_eq_true,decide_eq_true_eq,Bool.or_eq_true,beq_iff_eq,Nat.add_sub_cancel] at this
            refine ⟨?_,this.1.2⟩
            rcases this.2 with e2 | e2
            · omega
            · push_cast
              omega
        have hl:f.at_.length≤4:=by
          rcases Nat.lt_or_ge 4 f.at_.length with e1 | e1
          · have:=ha 4 e1;omega
          · exact e1
        refine ⟨ho.1,ho.2,hd.1,hd.2,hl,fun n hn => ?_,h4.symm,fun v hv => ?_,by omega⟩
        · obtain ⟨i,hi,rfl⟩:=List.getElem_of_mem hn
          have:=ha i hi
          rw [List.getD_eq_getElem?_getD,List.getElem?_eq_getElem hi] at this
          simp only [Option.getD_some] at this
          omega
        · obtain ⟨i,hi,rfl⟩:=List.getElem_of_mem hv
          have:=h6 i hi
          unfold valAt at this
          rw [List.getD_eq_getElem?_getD,List.getElem?_eq_getElem hi] at this
          simpa using this
      · cases h
def encP (f:GFrame):ByteArray × Int:=if frameZ f=0 then (strOfNums (encZ f),0) else (strOfNums [],frameZ f)
theorem encodeD_eq (f:GFrame) {fu:Nat} (hfu:40≤fu):encodeD fu f=some (encP f):=by
  unfold encP
  by_cases h:frameZ f=0
  · rw [if_pos h,encodeD_ok (FOk_of h) h hfu]
  · rw [if_neg h,encodeD_no h]
end Go.Proofs.Yteilffoclpgijaa
