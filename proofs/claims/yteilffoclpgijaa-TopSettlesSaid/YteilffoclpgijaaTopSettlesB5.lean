/- What the proof of TopSettles rests on, part 5: rules of walks, what functions compute, and plain laws of it. -/
import Derived.Test.YteilffoclpgijaaTopSettlesB4
namespace Go.Proofs.Yteilffoclpgijaa
set_option maxHeartbeats 4000000
set_option maxRecDepth 100000
open Go.RowKit
open Rep (rep)
set_option linter.unusedVariables false
abbrev Vm := @Try.underlying23
abbrev Yy := @GCluster.p0
abbrev Y3 := @GCluster.p2
abbrev Ve := @GCluster.p4
abbrev Jp := @q8q
abbrev Vy := @GReply.w0
abbrev Kn := @ta40
abbrev Vt := @GCluster.p5
abbrev Vf := @GCluster.p3
abbrev Yz := @GCluster.p1
abbrev K9 := @GCluster.u0
abbrev Ko := @q8e
abbrev V0 := @GAct.p1
abbrev Jg := @GAct.p0
def qg8 (fu:Nat) (x1:List ByteArray):Option (List ByteArray) :=
 (app ([]:List ByteArray) x1).bind fun l8 =>
 some l8
theorem qt1 {M:Mm} {w:World} {vx1:Value} {x1:List ByteArray} {fu:Nat} {r:(List ByteArray)} (hA:Agree M w) (hvx1:repL M vx1 x1) (hz:qg8 fu x1=some r) :
    Calls Try.prog 59 #[vx1] w (qcv M w [] (fun M' u L' => ∃ v0,u=v0∧L'=[.row v0 9 1]∧repL M' v0 r)):=by
 refine Zh Try.func59 rfl 8 rfl rfl (by kernel_rfl) fun T hT => ?_
 have hT_0:T 0=vx1:=hT 0
 clear hT
 have hE:=Qg w.heap.size (qai []) M
 have hS:St w (qai []) M [] w:=Zx hA
 rw [qg8] at hz
 refine Qh <|Qi <|Qc (Qj ((.slice none 0 0)) rfl) ?_
 refine Qf (Qa ?_)
 refine Qh <|Qh <|Qi <|Qc (Qe (vx1) hT_0) <|Qc (qr1 rfl rfl Yn hvx1) ?_
 refine Qf (Qa ?_)
 refine Qr rfl (fun hc2 => ?_) (fun hc2 => ?_)
 replace hz:(some [])=some r:=by rw [qmh hvx1 hc2] at hz;simpa [app] using hz
 refine Qh <|Qi <|Qc (Qj ((.slice none 0 0)) rfl) ?_
 refine Qf (Qa ?_)
 replace hS:=hS.nilRow 9 1
 cases hz
 exact Q4 (Qq (Yg rfl rfl ⟨_,M,_,rfl,hE,(hS.sel (H':=[.row (.slice none 0 0) 9 1]) [0] (by decide) rfl),(.slice none 0 0),rfl,rfl,(Z5 _)⟩))
 refine Qt (Qa ?_)
 refine Qh <|Qi ?_
 refine Qs (qmi q8p hS ?_)
 intro v4 M4 w3 hx4 hv4 hS
 replace hv4:repL M4 v4 ([]:List ByteArray):=hv4 _
 replace hvx1:=Qz hx4.1 hvx1
 refine Qc (Qe (vx1) hT_0) ?_
 obtain ⟨l8,hr7,hz⟩:=Qb hz
 obtain ⟨hy7,hs7⟩:=Z1 hr7
 refine Qs (Y7 (α := ByteArray) (j:=0) q8p hS rfl rfl rfl hv4 hvx1 hy7 ?_)
 intro v7 M7 w6 hx7 hv7 hS
 rw [← hs7] at hv7
 clear hr7 hs7
 replace hE:=Qd hE (hx4.trans hx7)
 refine Qc (Qj (v7) rfl) ?_
 refine Qf (Qa ?_)
 cases hz
 exact Q4 (Yg rfl rfl ⟨_,M7,_,rfl,hE,(hS.sel (H':=[.row v7 9 1]) [0] (by decide) rfl),v7,rfl,rfl,hv7⟩)
def qt2 (fu:Nat) (x1:GEntry):Option GEntry :=
 (qe6 fu x1.ops).bind fun r16 =>
 (qb7 fu x1.first).bind fun r20 =>
 (qb7 fu x1.deps).bind fun r25 =>
 (qb7 fu x1.at_).bind fun r30 =>
 (qb7 fu x1.values).bind fun r35 =>
 (some ({ x1 with ops:=r16 }:GEntry)).bind fun d40 =>
 (some ({ d40 with first:=r20 }:GEntry)).bind fun d43 =>
 (some ({ d43 with deps:=r25 }:GEntry)).bind fun d46 =>
 (some ({ d46 with at_:=r30 }:GEntry)).bind fun d49 =>
 (some ({ d49 with values:=r35 }:GEntry)).bind fun d52 =>
 (some d52).bind fun d56 =>
 some d56
theorem q4g {M:Mm} {w:World} {cx1:List Value} {x1:GEntry} {fu:Nat} {r:GEntry} (hA:Agree M w) (hcx1:rep M cx1 x1) (hz:qt2 fu x1=some r) :
    Calls Try.prog 45 #[.agg cx1.toArray] w (Gives M w (fun M' u => ∃ cs,u = .agg cs.toArray∧rep M' cs r)):=by
 refine Zh Try.func45 rfl 24 rfl rfl (by kernel_rfl) fun T hT => ?_
 have hT_0:T 0 = .agg cx1.toArray:=hT 0
 clear hT
 have hE:=Qg w.heap.size noX M
 have hS:St w noX M [] w:=Zx hA
 rw [qt2] at hz
 refine Qh <|Qi ?_
 refine Qs (Yo (v := .agg cx1.toArray) (cs:=cx1) hT_0 rfl hS ?_)
 intro b3 w2 hb3 hS
 refine Qs (Zg q68 hS ?_)
 intro b5 w4 hb5 hS
 have zb5:rep M (Zr.zc GEntry) (Zr.zd:GEntry):=Zr.zr
 refine Qf (Qa ?_)
 refine Qh <|Yu [.box b3 cx1 30] [16,18,20,22,24] Ya hS fun w6 hS hG7 hR8=>wy 0 rfl (Qp K7 rfl) (fun _=>hR8) ?_
 obtain ⟨v9,ev9,hv9⟩:=(Vs (rr hcx1))
 refine Y8 1 rfl (Qm v9 Vp rfl (Yp 0 rfl) ev9) hR8 <|wy 3 rfl (Qp qon rfl) (fun _=>hR8) ?_
 obtain ⟨v10,ev10,hv10⟩:=(Kc (rr hcx1))
 refine Y8 4 rfl (Qm v10 Z4 rfl (Yp 0 rfl) ev10) hR8 <|wy 6 rfl (Qp Jo rfl) (fun _=>hR8) ?_
 obtain ⟨v11,ev11,hv11⟩:=(Vx (rr hcx1))
 refine Y8 7 rfl (Qm v11 Z4 rfl (Yp 0 rfl) ev11) hR8 <|wy 9 rfl (Qp Vo rfl) (fun _=>hR8) ?_
 obtain ⟨v12,ev12,hv12⟩:=(Yh (rr hcx1))
 refine Y8 10 rfl (Qm v12 Z4 rfl (Yp 0 rfl) ev12) hR8 <|wy 12 rfl (Qp V6 rfl) (fun _=>hR8) ?_
 obtain ⟨v13,ev13,hv13⟩:=(Yt (rr hcx1))
 refine Y8 13 rfl (Qm v13 Z4 rfl (Yp 0 rfl) ev13) hR8 ?_
 obtain ⟨r16,hr15,hz⟩:=Qb hz
 refine w1 2 rfl (Y0 (vs:=[v9]) (rv:=(fun M' u=>repL M' u r16)) za9 (Zu rfl) hS (qkr hS.agree hv9 hr15) ?_)
 intro u15 M15 w14 hx15 hu15 hS
 have f15:repL M15 u15 r16:=hu15
 replace hv10:=Qz hx15.1 hv10
 replace hG7:=Qd hG7 hx15
 refine Yq hS hG7 fun hR17=>wy 15 rfl (Qp K7 rfl) (fun _=>hR17) ?_
 obtain ⟨r20,hr19,hz⟩:=Qb hz
 refine w1 5 rfl (Zl (vs:=[v10]) (L:=[]) (R:=[.box b5 (Zr.zc GEntry) 30,.box b3 cx1 30]) (rv:=(fun M' u L' => ∃ v0,u=v0∧L'=[.row v0 3 1]∧repL M' v0 r20)) q5b (Zu rfl) hS (hS.sel [0,1] (by decide) rfl) (fun hS=>Vl hS.agree hv10 hr19) ?_)
 rintro u19 M19 w18 L19 hx19 ⟨v0_19,rfl,hL19,f19_0⟩ hS
 replace hS:=hS _ hL19
 replace hv11:=Qz (hx15.1.trans hx19.1) hv11
 replace hG7:=Qd hG7 hx19
 refine Yq hS hG7 fun hR22 => ?_
 obtain ⟨r25,hr24,hz⟩:=Qb hz
 refine w1 8 rfl (Zl (vs:=[v11]) (L:=[]) (R:=[.row u19 3 1,.box b5 (Zr.zc GEntry) 30,.box b3 cx1 30]) (rv:=(fun M' u L' => ∃ v0,u=v0∧L'=[.row v0 3 1]∧repL M' v0 r25)) q5b (Zu rfl) hS (hS.sel [0,1,2] (by decide) rfl) (fun hS=>Vl hS.agree hv11 hr24) ?_)
 rintro u24 M24 w23 L24 hx24 ⟨v0_24,rfl,hL24,f24_0⟩ hS
 replace hS:=hS _ hL24
 replace hv12:=Qz (hx15.1.trans (hx19.1.trans hx24.1)) hv12
 replace hG7:=Qd hG7 hx24
 refine Yq hS hG7 fun hR27 => ?_
 obtain ⟨r30,hr29,hz⟩:=Qb hz
 refine w1 11 rfl (Zl (vs:=[v12]) (L:=[]) (R:=[.row u24 3 1,.row u19 3 1,.box b5 (Zr.zc GEntry) 30,.box b3 cx1 30]) (rv:=(fun M' u L' => ∃ v0,u=v0∧L'=[.row v0 3 1]∧repL M' v0 r30)) q5b (Zu rfl) hS (hS.sel [0,1,2,3] (by decide) rfl) (fun hS=>Vl hS.agree hv12 hr29) ?_)
 rintro u29 M29 w28 L29 hx29 ⟨v0_29,rfl,hL29,f29_0⟩ hS
 replace hS:=hS _ hL29
 replace hv13:=Qz (hx15.1.trans (hx19.1.trans (hx24.1.trans hx29.1))) hv13
 replace hG7:=Qd hG7 hx29
 refine Yq hS hG7 fun hR32 => ?_
 obtain ⟨r35,hr34,hz⟩:=Qb hz
 refine w1 14 rfl (Zl (vs:=[v13]) (L:=[]) (R:=[.row u29 3 1,.row u24 3 1,.row u19 3 1,.box b5 (Zr.zc GEntry) 30,.box b3 cx1 30]) (rv:=(fun M' u L' => ∃ v0,u=v0∧L'=[.row v0 3 1]∧repL M' v0 r35)) q5b (Zu rfl) hS (hS.sel [0,1,2,3,4] (by decide) rfl) (fun hS=>Vl hS.agree hv13 hr34) ?_)
 rintro u34 M34 w33 L34 hx34 ⟨v0_34,rfl,hL34,f34_0⟩ hS
 replace hS:=hS _ hL34
 replace hcx1:=Rep.mono (hx15.1.trans (hx19.1.trans (hx24.1.trans (hx29.1.trans hx34.1)))) hcx1
 replace zb5:=Rep.mono (hx15.1.trans (hx19.1.trans (hx24.1.trans (hx29.1.trans hx34.1)))) zb5
 replace f15:=Qz (hx19.1.trans (hx24.1.trans (hx29.1.trans hx34.1))) f15
 replace f19_0:=Qz (hx24.1.trans (hx29.1.trans hx34.1)) f19_0
 replace f24_0:=Qz (hx29.1.trans hx34.1) f24_0
 replace f29_0:=Qz hx34.1 f29_0
 replace hE:=Qd hE (hx15.trans (hx19.trans (hx24.trans (hx29.trans hx34))))
 replace hG7:=Qd hG7 hx34
 refine Yq hS hG7 fun hR37 => ?_
 obtain ⟨d40,hd39,hz⟩:=Qb hz
 refine w1 16 rfl (Q8 5 1 hS rfl hcx1 rfl rfl (Q1 f15) (Zc f15) rfl (GEntry.u1 (rr hcx1) (Lf (Vs (rr hcx1)) (Q1 f15))) hd39 ?_)
 intro cs39 w38 hb39 ha39 hs39 hS
 refine ⟨nB,?_⟩
 refine wy 17 rfl (Qp qon rfl) nB ?_
 obtain ⟨d43,hd42,hz⟩:=Qb hz
 refine w1 18 rfl (Q8 5 1 hS rfl hb39 rfl rfl (Q1 f19_0) (Zc f19_0) rfl (GEntry.u2 (rr hb39) (Lf (Kc (rr hb39)) (Q1 f19_0))) hd42 ?_)
 intro cs42 w41 hb42 ha42 hs42 hS
 refine ⟨nB,?_⟩
 refine wy 19 rfl (Qp Jo rfl) nB ?_
 obtain ⟨d46,hd45,hz⟩:=Qb hz
 refine w1 20 rfl (Q8 5 1 hS rfl hb42 rfl rfl (Q1 f24_0) (Zc f24_0) rfl (GEntry.u3 (rr hb42) (Lf (Vx (rr hb42)) (Q1 f24_0))) hd45 ?_)
 intro cs45 w44 hb45 ha45 hs45 hS
 refine ⟨nB,?_⟩
 refine wy 21 rfl (Qp Vo rfl) nB ?_
 obtain ⟨d49,hd48,hz⟩:=Qb hz
 refine w1 22 rfl (Q8 5 1 hS rfl hb45 rfl rfl (Q1 f29_0) (Zc f29_0) rfl (Je (rr hb45) (Lf (Yh (rr hb45)) (Q1 f29_0))) hd48 ?_)
 intro cs48 w47 hb48 ha48 hs48 hS
 refine ⟨nB,?_⟩
 refine wy 23 rfl (Qp V6 rfl) nB ?_
 obtain ⟨d52,hd51,hz⟩:=Qb hz
 refine w1 24 rfl (Q8 5 1 hS rfl hb48 rfl rfl (Q1 f34_0) (Zc f34_0) rfl (Jf (rr hb48) (Lf (Yt (rr hb48)) (Q1 f34_0))) hd51 ?_)
 intro cs51 w50 hb51 ha51 hs51 hS
 refine ⟨nB,?_⟩
 refine wd (Qa ?_)
 refine Qh <|Qi ?_
 have ha53:=(rr hb51)
 refine Qc (Zf q9f rfl (hS.bvB 5 rfl) (Rep.len ha53)) ?_
 obtain ⟨d56,hd55,hz⟩:=Qb hz
 refine Qs (Q8 4 6 hS rfl zb5 rfl rfl ha53 rfl rfl (Lf (rr zb5) ha53) hd55 ?_)
 intro cs55 w54 hb55 ha55 hs55 hS
 refine Qf (Qa ?_)
 cases hz
 exact Q4 (Jq (j:=4) rfl rfl (by rw [Rep.len hb55];exact q9f) hS rfl (Zk (Ql (Ql (Ql (Ql (Ql (Ql hS)))))) hE ⟨_,rfl,hb55⟩))
def qed (fu:Nat) (x1:GCluster) (x2:Int):Nat→GNode→Int→Option (GNode × Bool)
 | 0,_,_=>none
 | n+1,d33,y34 =>
 (bif decide (y34<32) then
 (inR y34 32).bind fun _ =>
 (qa7 d33.entries y34).bind fun x42 =>
 (qt2 fu x42).bind fun r47 =>
 (inR y34 32).bind fun _ =>
 (qa7 d33.entries y34).bind fun x52 =>
 (qe2 d33.entries y34 r47).bind fun a54 =>
 (some ({ d33 with entries:=a54 }:GNode)).bind fun d56 =>
 (qed fu x1 x2 n) d56 (IntKind.wrap .i64 (y34+1))
 else
 (inR x2 6).bind fun _ =>
 (qa7 x1.down x2).bind fun x63 =>
 (some d33).bind fun d67 =>
 some (d67,x63))
def qlp (fu:Nat) (x1:GCluster) (x2:Int) (d9:GNode):Option (GNode × Bool) :=
 (inR x2 6).bind fun _ =>
 (qa7 x1.nodes x2).bind fun x13 =>
 (some x13).bind fun d20 =>
 (qb7 fu d20.order).bind fun r24 =>
 (some ({ d20 with order:=r24 }:GNode)).bind fun d28 =>
 qed fu x1 x2 fu d28 0
def qi4 (fu:Nat) (x1:GCluster) (x2:Int) (c73:Bool):Option (GNode × Bool) :=
 (bif c73 then
 (some ({ entries:=Zr.zd,order:=Zr.zd,values:=Zr.zd }:GNode)).bind fun d77 =>
 (some d77).bind fun d80 =>
 some (d80,false)
 else
 qlp fu x1 x2 (Zr.zd:GNode))
def qi5 (fu:Nat) (x1:GCluster) (x2:Int):Option (GNode × Bool) :=
 (bif decide (x2<0) then
 qi4 fu x1 x2 true
 else
 qi4 fu x1 x2 (decide (x2≥6)))
theorem qlq {M:Mm} {w:World} {bx1:Nat} {cx1:List Value} {x1:GCluster} {x2:Int} {fu:Nat} {r:GNode × Bool} (hS:St w (qai [.box bx1 cx1 90]) M [.box bx1 cx1 90] w) (hcx1:rep M cx1 x1) (hz:qi5 fu x1 x2=some r) :
    Calls Try.prog 17 #[.pointer (some ⟨bx1,0,none⟩),.int .i64 x2] w (qcv M w [.box bx1 cx1 90] (fun M' u L' => ∃ c0,u = .tuple #[.agg c0.toArray,.bool r.2]∧L'=[.box bx1 cx1 90]∧rep M' c0 r.1)):=by
 refine Zh Try.func17 rfl 48 rfl rfl (by kernel_rfl) fun T hT => ?_
 have hT_0:T 0 = .pointer (some ⟨bx1,0,none⟩):=hT 0
 have hT_1:T 1 = .int .i64 x2:=hT 1
 clear hT
 have hE:=Qg w.heap.size (qai [.box bx1 cx1 90]) M
 rw [qi5] at hz
 refine Qh <|Qi ?_
 refine Qs (Zg qxo hS ?_)
 intro b4 w3 hb4 hS
 have zb4:rep M (Zr.zc GNode) (Zr.zd:GNode):=Zr.zr
 refine Qc (Qj (.bool false) rfl) ?_
 refine Qf (Qa ?_)
 refine Q0 (fun T' w' => ∃ M6 cs8 d9,Mm.ext w.heap.size (qai [.box bx1 cx1 90]) M M6∧St w (qai [.box bx1 cx1 90]) M6 [.box b4 cs8 34,.box bx1 cx1 90] w'∧rep M6 cs8 d9∧T' 0 = .pointer (some ⟨bx1,0,none⟩)∧T' 1 = .int .i64 x2∧T' 4 = .pointer (some ⟨b4,0,none⟩)∧qlp fu x1 x2 d9=some r) ?_ ?_
 have hF69:=Qg w.heap.size (qai [.box bx1 cx1 90]) M
 refine Q0 (fun T' w' => ∃ M71 c73,Mm.ext w.heap.size (qai [.box bx1 cx1 90]) M M71∧St w (qai [.box bx1 cx1 90]) M71 [.box b4 (Zr.zc GNode) 34,.box bx1 cx1 90] w'∧T' 0 = .pointer (some ⟨bx1,0,none⟩)∧T' 1 = .int .i64 x2∧T' 4 = .pointer (some ⟨b4,0,none⟩)∧T' 17 = .bool c73∧qi4 fu x1 x2 c73=some r) ?_ ?_
 have hF81:=Qg w.heap.size (qai [.box bx1 cx1 90]) M
 refine Qi <|Qc (Qe (.pointer (some ⟨bx1,0,none⟩)) hT_0) <|Qc (qol rfl rfl Vm) <|Qc (Qe (.bool false) rfl) <|Qk rfl rfl (Qe (.int .i64 x2) hT_1) <|Qk rfl rfl (Zv rfl rfl) <|Q2 2 rfl ?_
 rcases ic hz with ⟨hc82,hz⟩ | ⟨hc82,hz⟩<;>rw [hc82]
 refine Q2 3 rfl ?_
 refine Qf (Qa ?_)
 exact ⟨M,true,hF81,hS,hT_0,hT_1,rfl,rfl,hz⟩
 refine Qk rfl rfl (Qe (.int .i64 x2) hT_1) <|Qk rfl rfl (Vd rfl rfl) <|Qc (Zi (.bool (decide (x2≥6))) rfl rfl) ?_
 refine Qf (Qa ?_)
 exact ⟨M,(decide (x2≥6)),hF81,hS,hT_0,hT_1,rfl,rfl,hz⟩
 rintro T72 w70 ⟨M71,c73,hx74,hS,hT72_0,hT72_1,hT72_4,hT72_17,hz⟩
 replace zb4:=Rep.mono hx74.1 zb4
 replace hE:=Qd hE hx74
 replace hF69:=Qd hF69 hx74
 rw [qi4] at hz
 refine Qr hT72_17 (fun hc75 => ?_) (fun hc75 => ?_)
 replace hz:=Qn hz hc75
 refine Qh <|Qi ?_
 obtain ⟨d77,hd76,hz⟩:=Qb hz
 obtain ⟨cs76,hf76,ha76⟩ : ∃ cs,qbj (([(0,192),(192,1),(193,8)]:List (Nat × Nat))[·]?) (Zr.zc GNode) []=some cs∧rep M71 cs d77:=⟨_,Z2,Z3 (x:=({ entries:=Zr.zd,order:=Zr.zd,values:=Zr.zd }:GNode)) (Zr.zr:rep M71 (Zr.zc GNode) (Zr.zd:GNode)) hd76⟩
 refine Qc (Zt [] q8b Vb hf76) ?_
 obtain ⟨d80,hd79,hz⟩:=Qb hz
 refine Qs (Q8 0 201 hS rfl zb4 hT72_4 rfl ha76 rfl rfl (Lf (rr zb4) ha76) hd79 ?_)
 intro cs79 w78 hb79 ha79 hs79 hS
 refine Qc (Qj (.bool false) rfl) ?_
 refine Qf (Qa ?_)
 cases hz
 exact Q4 (Qq (q45 (j:=0) rfl hT72_4 rfl (by rw [Rep.len hb79];exact Vk) hS rfl ⟨_,M71,_,rfl,hE,(hS.sel (H':=[.box bx1 cx1 90]) [1] (by decide) rfl),cs79,rfl,rfl,hb79⟩))
 replace hz:=Qo hz hc75
 refine Qt (Qa ?_)
 exact ⟨M71,(Zr.zc GNode),(Zr.zd:GNode),hF69,hS,zb4,hT72_0,hT72_1,hT72_4,hz⟩
 rintro T7 w5 ⟨M6,cs8,d9,hx10,hS,hb8,hT7_0,hT7_1,hT7_4,hz⟩
 replace hcx1:=Rep.mono hx10.1 hcx1
 rw [qlp] at hz
 refine Qh <|Qi <|Qc (Qe (.pointer (some ⟨bx1,0,none⟩)) hT7_0) <|Qc (Qe (.int .i64 x2) hT7_1) <|Qc (Q6 rfl) <|Qc (Qp qqv rfl) ?_
 obtain ⟨u11,hx12,hz⟩:=Qb hz
 obtain ⟨hx12a,hx12b⟩:=Qw hx12
 refine Qc (Ze q7b rfl rfl hx12a hx12b) ?_
 obtain ⟨x13,hx14,hz⟩:=Qb hz
 have ha15:=(vp (k:=201) rfl rfl (Yy (rr hcx1)) hx14)
 refine Qc (Zf Vk rfl (hS.bvB 1 rfl) (Rep.len ha15)) ?_
 refine Qs (Zg qxo hS ?_)
 intro b17 w16 hb17 hS
 have zb17:rep M6 (Zr.zc GNode) (Zr.zd:GNode):=Zr.zr
 obtain ⟨d20,hd19,hz⟩:=Qb hz
 refine Qs (Q8 0 201 hS rfl zb17 rfl rfl ha15 rfl rfl (Lf (rr zb17) ha15) hd19 ?_)
 intro cs19 w18 hb19 ha19 hs19 hS
 refine Qf (Qa ?_)
 refine Qh <|Qi <|Qc (Qp qoo rfl) ?_
 obtain ⟨v21,ev21,hv21⟩:=(Kv (rr hb19))
 refine Qc (Qm v21 Z4 rfl (hS.bvB 0 rfl) ev21) ?_
 obtain ⟨r24,hr23,hz⟩:=Qb hz
 refine Qs (Zl (vs:=[v21]) (L:=[]) (R:=[.box b17 cs19 34,.box b4 cs8 34,.box bx1 cx1 90]) (rv:=(fun M' u L' => ∃ v0,u=v0∧L'=[.row v0 3 1]∧repL M' v0 r24)) q5b (Zu rfl) hS (hS.sel [0,1,2] (by decide) rfl) (fun hS=>Vl hS.agree hv21 hr23) ?_)
 rintro u23 M23 w22 L23 hx23 ⟨v0_23,rfl,hL23,f23_0⟩ hS
 replace hS:=hS _ hL23
 replace hcx1:=Rep.mono hx23.1 hcx1
 replace hb8:=Rep.mono hx23.1 hb8
 replace hb19:=Rep.mono hx23.1 hb19
 replace hE:=Qd hE (hx10.trans hx23)
 refine Qc (Qp qoo rfl) ?_
 obtain ⟨d28,hd27,hz⟩:=Qb hz
 refine Qs (Q8 1 1 hS rfl hb19 rfl rfl (Q1 f23_0) (Zc f23_0) rfl (GNode.u1 (rr hb19) (Lf (Kv (rr hb19)) (Q1 f23_0))) hd27 ?_)
 intro cs27 w26 hb27 ha27 hs27 hS
 refine Qf (Qa ?_)
 refine Qh <|Qh <|Qi <|Qc (Qe (.int .i64 0) rfl) ?_
 refine Qf (Qa ?_)
 refine Qv ?_
 refine Zw (fun k36 T' w' => ∃ M30 cs32 d33 y34,Mm.ext w.heap.size (qai [.box bx1 cx1 90]) M23 M30∧St w (qai [.box bx1 cx1 90]) M30 [.row u23 3 1,.box b17 cs32 34,.box b4 cs8 34,.box bx1 cx1 90] w'∧rep M30 cs32 d33∧T' 0 = .pointer (some ⟨bx1,0,none⟩)∧T' 1 = .int .i64 x2∧T' 4 = .pointer (some ⟨b4,0,none⟩)∧T' 6 = .pointer (some ⟨b17,0,none⟩)∧T' 29 = .int .i64 y34∧qed fu x1 x2 k36 d33 y34=some r) fu ?_ ?_ ?_
 exact ⟨M23,cs27,d28,(0:Int),(Qg _ _ _),hS,hb27,hT7_0,hT7_1,hT7_4,rfl,rfl,hz⟩
 rintro T' w' ⟨_,_,_,_,_,_,_,_,_,_,_,_,hz⟩
 rw [qed] at hz
 cases hz
 intro k36
 rintro T31 w29 ⟨M30,cs32,d33,y34,hx38,hS,hb32,hT31_0,hT31_1,hT31_4,hT31_6,hT31_29,hz⟩
 replace hcx1:=Rep.mono hx38.1 hcx1
 replace hb8:=Rep.mono hx38.1 hb8
 replace hE:=Qd hE hx38
 have hF37:=hx38
 rw [qed] at hz
 obtain ⟨rec35,hrec35⟩ : ∃ f,f=qed fu x1 x2 k36:=⟨_,rfl⟩
 rw [← hrec35] at hz
 refine Qh <|Qi <|Qc (Zv hT31_29 rfl) ?_
 refine Qf (Qa ?_)
 refine Qh ?_
 refine Qr rfl (fun hc39 => ?_) (fun hc39 => ?_)
 replace hz:=Qn hz hc39
 refine Qt (Qa ?_)
 refine Qh <|Qv <|Qh <|Qi <|Qc (Qe (.int .i64 y34) hT31_29) <|Qc (Qj (.int .i64 y34) rfl) ?_
 refine Qf (Qa ?_)
 refine Qi <|Q2 2 rfl <|Qc (Qp V5 hT31_6) ?_
 obtain ⟨u40,hx41,hz⟩:=Qb hz
 obtain ⟨hx41a,hx41b⟩:=Qw hx41
 refine Qc (Ze q3m rfl rfl hx41a hx41b) ?_
 obtain ⟨x42,hx43,hz⟩:=Qb hz
 have ha44:=(vp (k:=6) rfl rfl (Q5 (rr hb32)) hx43)
 refine Qc (Zf q9f rfl (hS.bvB 1 rfl) (Rep.len ha44)) ?_
 obtain ⟨r47,hr46,hz⟩:=Qb hz
 refine Qs (Y0 (vs:=[.agg (sl cs32 (0+0+Int.toNat y34*6) 6).toArray]) (rv:=(fun M' u => ∃ cs,u = .agg cs.toArray∧rep M' cs r47)) cb45 (Zu rfl) hS (q4g hS.agree ha44 hr46) ?_)
 intro u46 M46 w45 hx46 hu46 hS
 obtain ⟨c46,hq46,f46⟩:=hu46
 subst hq46
 replace hb32:=Rep.mono hx46.1 hb32
 replace hF37:=Qd hF37 hx46
 refine Qc (Qp V5 hT31_6) ?_
 obtain ⟨u48,hx49,hz⟩:=Qb hz
 obtain ⟨hx49a,hx49b⟩:=Qw hx49
 refine Qc (Ze q3m rfl rfl hx49a hx49b) ?_
 obtain ⟨x52,hx53,hz⟩:=Qb hz
 obtain ⟨a54,hx55,hz⟩:=Qb hz
 obtain ⟨d56,hd51,hz⟩:=Qb hz
 refine Qs (Q8 1 6 hS rfl hb32 rfl rfl f46 rfl rfl (Yx (rr hb32) (vu (k:=6) rfl rfl (Q5 (rr hb32)) (Lf (vp (k:=6) rfl rfl (Q5 (rr hb32)) hx53) f46) hx55)) hd51 ?_)
 intro cs51 w50 hb51 ha51 hs51 hS
 refine Qf (Za ?_)
 refine (Qa ?_)
 refine Qi <|Qc (Zz hT31_29 rfl) <|Qc (Qe (.int .i64 (IntKind.wrap .i64 (y34+1))) rfl) ?_
 refine Qf (Qa ?_)
 exact ⟨M46,cs51,d56,(IntKind.wrap .i64 (y34+1)),hF37,hS,hb51,hT31_0,hT31_1,hT31_4,hT31_6,rfl,(by rw [← hrec35];exact hz)⟩
 replace hz:=Qo hz hc39
 refine Zq <|Qy <|Qy <|Zs ?_
 refine (Qa ?_)
 refine Qh <|Yu [.box b17 cs32 34,.box bx1 cx1 90] [] Ya hS fun w57 hS hG58 hR59 => ?_
 have ha60:=(rr hb32)
 refine Y8 0 rfl (Zf Vk hT31_6 (Yp 0 rfl) (Rep.len ha60)) hR59 <|wy 1 rfl (Qe (.pointer (some ⟨bx1,0,none⟩)) hT31_0) (fun _=>hR59) <|wy 2 rfl (Qe (.int .i64 x2) hT31_1) (fun _=>hR59) <|wy 3 rfl (Q6 rfl) (fun _=>hR59) <|wy 4 rfl (Qp qqw rfl) (fun _=>hR59) ?_
 obtain ⟨u61,hx62,hz⟩:=Qb hz
 obtain ⟨hx62a,hx62b⟩:=Qw hx62
 refine wy 5 rfl (Ze Jr rfl rfl hx62a hx62b) (fun _=>hR59) ?_
 obtain ⟨x63,hx64,hz⟩:=Qb hz
 refine Y8 6 rfl (Qm (.bool x63) Jl rfl (Yp 1 rfl) (vp (k:=1) rfl rfl (Y3 (rr hcx1)) hx64)) hR59 ?_
 obtain ⟨d67,hd66,hz⟩:=Qb hz
 refine w1 7 rfl (Q8 2 201 hS rfl hb8 hT31_4 rfl ha60 rfl rfl (Lf (rr hb8) ha60) hd66 ?_)
 intro cs66 w65 hb66 ha66 hs66 hS
 refine Yq hS hG58 fun hR68=>wy 8 rfl (Qj (.bool x63) rfl) (fun _=>hR68) ?_
 refine wd (Qa ?_)
 cases hz
 exact Q4 (q45 (j:=2) rfl hT31_4 rfl (by rw [Rep.len hb66];exact Vk) hS rfl ⟨_,M30,_,rfl,hE,(hS.sel (H':=[.box bx1 cx1 90]) [3] (by decide) rfl),cs66,rfl,rfl,hb66⟩)
def qlr (fu:Nat) (x1:GCluster) (x2:Int) (d9:GCase):Option GCase :=
 (inR x2 32).bind fun _ =>
 (qa7 x1.cases x2).bind fun x13 =>
 (some x13).bind fun d20 =>
 (qe6 fu d20.ops).bind fun r28 =>
 (qb7 fu d20.deps).bind fun r32 =>
 (some ({ d20 with ops:=r28 }:GCase)).bind fun d37 =>
 (some ({ d37 with deps:=r32 }:GCase)).bind fun d40 =>
 (some d40).bind fun d44 =>
 some d44
def qi6 (fu:Nat) (x1:GCluster) (x2:Int) (c49:Bool):Option GCase :=
 (bif c49 then
 (some ({ begun:=Zr.zd,fixed:=Zr.zd,ops:=Zr.zd,told:=Zr.zd,known:=Zr.zd,deps:=Zr.zd,has:=Zr.zd,values:=Zr.zd }:GCase)).bind fun d53 =>
 (some d53).bind fun d56 =>
 some d56
 else
 qlr fu x1 x2 (Zr.zd:GCase))
def qmn (fu:Nat) (x1:GCluster) (x2:Int):Option GCase :=
 (bif decide (x2<0) then
 qi6 fu x1 x2 true
 else
 qi6 fu x1 x2 (decide (x2≥32)))
theorem qt3 {M:Mm} {w:World} {bx1:Nat} {cx1:List Value} {x1:GCluster} {x2:Int} {fu:Nat} {r:GCase} (hS:St w (qai [.box bx1 cx1 90]) M [.box bx1 cx1 90] w) (hcx1:rep M cx1 x1) (hz:qmn fu x1 x2=some r) :
    Calls Try.prog 20 #[.pointer (some ⟨bx1,0,none⟩),.int .i64 x2] w (qcv M w [.box bx1 cx1 90] (fun M' u L' => ∃ c0,u = .agg c0.toArray∧L'=[.box bx1 cx1 90]∧rep M' c0 r)):=by
 refine Zh Try.func20 rfl 32 rfl rfl (by kernel_rfl) fun T hT => ?_
 have hT_0:T 0 = .pointer (some ⟨bx1,0,none⟩):=hT 0
 have hT_1:T 1 = .int .i64 x2:=hT 1
 clear hT
 have hE:=Qg w.heap.size (qai [.box bx1 cx1 90]) M
 rw [qmn] at hz
 refine Qh <|Qi ?_
 refine Qs (Zg q32 hS ?_)
 intro b4 w3 hb4 hS
 have zb4:rep M (Zr.zc GCase) (Zr.zd:GCase):=Zr.zr
 refine Qf (Qa ?_)
 refine Q0 (fun T' w' => ∃ M6 cs8 d9,Mm.ext w.heap.size (qai [.box bx1 cx1 90]) M M6∧St w (qai [.box bx1 cx1 90]) M6 [.box b4 cs8 49,.box bx1 cx1 90] w'∧rep M6 cs8 d9∧T' 0 = .pointer (some ⟨bx1,0,none⟩)∧T' 1 = .int .i64 x2∧T' 4 = .pointer (some ⟨b4,0,none⟩)∧qlr fu x1 x2 d9=some r) ?_ ?_
 have hF45:=Qg w.heap.size (qai [.box bx1 cx1 90]) M
 refine Q0 (fun T' w' => ∃ M47 c49,Mm.ext w.heap.size (qai [.box bx1 cx1 90]) M M47∧St w (qai [.box bx1 cx1 90]) M47 [.box b4 (Zr.zc GCase) 49,.box bx1 cx1 90] w'∧T' 0 = .pointer (some ⟨bx1,0,none⟩)∧T' 1 = .int .i64 x2∧T' 4 = .pointer (some ⟨b4,0,none⟩)∧T' 15 = .bool c49∧qi6 fu x1 x2 c49=some r) ?_ ?_
 have hF57:=Qg w.heap.size (qai [.box bx1 cx1 90]) M
 refine Qi <|Qc (Qe (.pointer (some ⟨bx1,0,none⟩)) hT_0) <|Qc (qol rfl rfl Vm) <|Qc (Qe (.bool false) rfl) <|Qk rfl rfl (Qe (.int .i64 x2) hT_1) <|Qk rfl rfl (Zv rfl rfl) <|Q2 2 rfl ?_
 rcases ic hz with ⟨hc58,hz⟩ | ⟨hc58,hz⟩<;>rw [hc58]
 refine Q2 3 rfl ?_
 refine Qf (Qa ?_)
 exact ⟨M,true,hF57,hS,hT_0,hT_1,rfl,rfl,hz⟩
 refine Qk rfl rfl (Qe (.int .i64 x2) hT_1) <|Qk rfl rfl (Vd rfl rfl) <|Qc (Zi (.bool (decide (x2≥32))) rfl rfl) ?_
 refine Qf (Qa ?_)
 exact ⟨M,(decide (x2≥32)),hF57,hS,hT_0,hT_1,rfl,rfl,hz⟩
 rintro T48 w46 ⟨M47,c49,hx50,hS,hT48_0,hT48_1,hT48_4,hT48_15,hz⟩
 replace zb4:=Rep.mono hx50.1 zb4
 replace hE:=Qd hE hx50
 replace hF45:=Qd hF45 hx50
 rw [qi6] at hz
 refine Qr hT48_15 (fun hc51 => ?_) (fun hc51 => ?_)
 replace hz:=Qn hz hc51
 refine Qh <|Qi ?_
 obtain ⟨d53,hd52,hz⟩:=Qb hz
 obtain ⟨cs52,hf52,ha52⟩ : ∃ cs,qbj (([(0,1),(1,1),(2,1),(3,6),(9,6),(15,1),(16,4),(20,4)]:List (Nat × Nat))[·]?) (Zr.zc GCase) []=some cs∧rep M47 cs d53:=⟨_,Z2,Z3 (x:=({ begun:=Zr.zd,fixed:=Zr.zd,ops:=Zr.zd,told:=Zr.zd,known:=Zr.zd,deps:=Zr.zd,has:=Zr.zd,values:=Zr.zd }:GCase)) (Zr.zr:rep M47 (Zr.zc GCase) (Zr.zd:GCase)) hd52⟩
 refine Qc (Zt [] q9h Vb hf52) ?_
 obtain ⟨d56,hd55,hz⟩:=Qb hz
 refine Qs (Q8 0 24 hS rfl zb4 hT48_4 rfl ha52 rfl rfl (Lf (rr zb4) ha52) hd55 ?_)
 intro cs55 w54 hb55 ha55 hs55 hS
 refine Qf (Qa ?_)
 cases hz
 exact Q4 (Qq (Jq (j:=0) rfl hT48_4 (by rw [Rep.len hb55];exact Vc) hS rfl ⟨_,M47,_,rfl,hE,(hS.sel (H':=[.box bx1 cx1 90]) [1] (by decide) rfl),cs55,rfl,rfl,hb55⟩))
 replace hz:=Qo hz hc51
 refine Qt (Qa ?_)
 exact ⟨M47,(Zr.zc GCase),(Zr.zd:GCase),hF45,hS,zb4,hT48_0,hT48_1,hT48_4,hz⟩
 rintro T7 w5 ⟨M6,cs8,d9,hx10,hS,hb8,hT7_0,hT7_1,hT7_4,hz⟩
 replace hcx1:=Rep.mono hx10.1 hcx1
 rw [qlr] at hz
 refine Qh <|Qi <|Qc (Qe (.pointer (some ⟨bx1,0,none⟩)) hT7_0) <|Qc (Qe (.int .i64 x2) hT7_1) <|Qc (Q6 rfl) <|Qc (Qp qqx rfl) ?_
 obtain ⟨u11,hx12,hz⟩:=Qb hz
 obtain ⟨hx12a,hx12b⟩:=Qw hx12
 refine Qc (Ze q7c rfl rfl hx12a hx12b) ?_
 obtain ⟨x13,hx14,hz⟩:=Qb hz
 have ha15:=(vp (k:=24) rfl rfl (Ve (rr hcx1)) hx14)
 refine Qc (Zf Vc rfl (hS.bvB 1 rfl) (Rep.len ha15)) ?_
 refine Qs (Zg q32 hS ?_)
 intro b17 w16 hb17 hS
 have zb17:rep M6 (Zr.zc GCase) (Zr.zd:GCase):=Zr.zr
 obtain ⟨d20,hd19,hz⟩:=Qb hz
 refine Qs (Q8 0 24 hS rfl zb17 rfl rfl ha15 rfl rfl (Lf (rr zb17) ha15) hd19 ?_)
 intro cs19 w18 hb19 ha19 hs19 hS
 refine Qf (Qa ?_)
 refine Qh <|Yu [.box b17 cs19 49] [7,9] Ya hS fun w21 hS hG22 hR23=>wy 0 rfl (Qp V3 rfl) (fun _=>hR23) ?_
 obtain ⟨v24,ev24,hv24⟩:=(Y9 (rr hb19))
 refine Y8 1 rfl (Qm v24 Vp rfl (Yp 0 rfl) ev24) hR23 <|wy 3 rfl (Qp K4 rfl) (fun _=>hR23) ?_
 obtain ⟨v25,ev25,hv25⟩:=(V1 (rr hb19))
 refine Y8 4 rfl (Qm v25 Z4 rfl (Yp 0 rfl) ev25) hR23 ?_
 obtain ⟨r28,hr27,hz⟩:=Qb hz
 refine w1 2 rfl (Y0 (vs:=[v24]) (rv:=(fun M' u=>repL M' u r28)) za9 (Zu rfl) hS (qkr hS.agree hv24 hr27) ?_)
 intro u27 M27 w26 hx27 hu27 hS
 have f27:repL M27 u27 r28:=hu27
 replace hv25:=Qz hx27.1 hv25
 replace hG22:=Qd hG22 hx27
 refine Yq hS hG22 fun hR29=>wy 6 rfl (Qp V3 rfl) (fun _=>hR29) ?_
 obtain ⟨r32,hr31,hz⟩:=Qb hz
 refine w1 5 rfl (Zl (vs:=[v25]) (L:=[]) (R:=[.box b17 cs19 49,.box b4 cs8 49,.box bx1 cx1 90]) (rv:=(fun M' u L' => ∃ v0,u=v0∧L'=[.row v0 3 1]∧repL M' v0 r32)) q5b (Zu rfl) hS (hS.sel [0,1,2] (by decide) rfl) (fun hS=>Vl hS.agree hv25 hr31) ?_)
 rintro u31 M31 w30 L31 hx31 ⟨v0_31,rfl,hL31,f31_0⟩ hS
 replace hS:=hS _ hL31
 replace hb8:=Rep.mono (hx27.1.trans hx31.1) hb8
 replace hb19:=Rep.mono (hx27.1.trans hx31.1) hb19
 replace f27:=Qz hx31.1 f27
 replace hE:=Qd hE (hx10.trans (hx27.trans hx31))
 replace hG22:=Qd hG22 hx31
 refine Yq hS hG22 fun hR34 => ?_
 obtain ⟨d37,hd36,hz⟩:=Qb hz
 refine w1 7 rfl (Q8 1 1 hS rfl hb19 rfl rfl (Q1 f27) (Zc f27) rfl (GCase.u2 (rr hb19) (Lf (Y9 (rr hb19)) (Q1 f27))) hd36 ?_)
 intro cs36 w35 hb36 ha36 hs36 hS
 refine ⟨nB,?_⟩
 refine wy 8 rfl (Qp K4 rfl) nB ?_
 obtain ⟨d40,hd39,hz⟩:=Qb hz
 refine w1 9 rfl (Q8 1 1 hS rfl hb36 rfl rfl (Q1 f31_0) (Zc f31_0) rfl (GCase.u5 (rr hb36) (Lf (V1 (rr hb36)) (Q1 f31_0))) hd39 ?_)
 intro cs39 w38 hb39 ha39 hs39 hS
 refine ⟨nB,?_⟩
 refine wd (Qa ?_)
 refine Qh <|Qi ?_
 have ha41:=(rr hb39)
 refine Qc (Zf Vc rfl (hS.bvB 1 rfl) (Rep.len ha41)) ?_
 obtain ⟨d44,hd43,hz⟩:=Qb hz
 refine Qs (Q8 2 24 hS rfl hb8 hT7_4 rfl ha41 rfl rfl (Lf (rr hb8) ha41) hd43 ?_)
 intro cs43 w42 hb43 ha43 hs43 hS
 refine Qf (Qa ?_)
 cases hz
 exact Q4 (Jq (j:=2) rfl hT7_4 (by rw [Rep.len hb43];exact Vc) hS rfl ⟨_,M31,_,rfl,hE,(hS.sel (H':=[.box bx1 cx1 90]) [3] (by decide) rfl),cs43,rfl,rfl,hb43⟩)
def qo8 (fu:Nat) (x1:GCluster) (l3:List ByteArray):Option ((List ByteArray) × (List ByteArray)) :=
 (qg8 fu l3).bind fun l6 =>
 some (l6,l3)
theorem qsb {M:Mm} {w:World} {bx1:Nat} {cx1:List Value} {ux1_6:Value} {xsx1_6:List Value} {x1:GCluster} {l3:List ByteArray} {fu:Nat} {r:(List ByteArray) × (List ByteArray)} (hS:St w (qai [.box bx1 cx1 90,.stk ux1_6 9 1 xsx1_6]) M [.box bx1 cx1 90,.stk ux1_6 9 1 xsx1_6] w) (hcx1:rep M cx1 x1) (hkx1_6:skr M ux1_6 xsx1_6 l3) (hpx1_6:sl cx1 1993 1=[ux1_6]) (hz:qo8 fu x1 l3=some r) :
    Calls Try.prog 32 #[.pointer (some ⟨bx1,0,none⟩)] w (qcv M w [.box bx1 cx1 90,.stk ux1_6 9 1 xsx1_6] (fun M' u L' => ∃ v0 u1 x1,u=v0∧L'=[.box bx1 cx1 90,.stk u1 9 1 x1]∧repL M' v0 r.1∧skr M' u1 x1 r.2∧sl cx1 1993 1=[u1])):=by
 refine Zh Try.func32 rfl 10 rfl rfl (by kernel_rfl) fun T hT => ?_
 have hT_0:T 0 = .pointer (some ⟨bx1,0,none⟩):=hT 0
 clear hT
 have hE:=Qg w.heap.size (qai [.box bx1 cx1 90,.stk ux1_6 9 1 xsx1_6]) M
 rw [qo8] at hz
 refine Qh <|Qi <|Qc (Qj ((.slice none 0 0)) rfl) ?_
 refine Qf (Qa ?_)
 refine Qh <|Qh <|Qi <|Qc (Qe (.pointer (some ⟨bx1,0,none⟩)) hT_0) <|Qc (qol rfl rfl Vm) ?_
 refine Qf (Qa ?_)
 refine qrx rfl ?_
 refine Qt (Qa ?_)
 refine Qh <|Qi <|Qc (Qe (.pointer (some ⟨bx1,0,none⟩)) hT_0) <|Qc (Q6 rfl) <|Qc (Qp Jp rfl) <|Qc (Qm ux1_6 q7a rfl (hS.bvB 0 rfl) hpx1_6) ?_
 obtain ⟨l6,hr5,hz⟩:=Qb hz
 refine Qs (q6o (j:=1) cb59 (Zu rfl) hS rfl hkx1_6 (fun hA hv=>qt1 hA hv hr5) ?_)
 intro v5 M5 w4 hx5 hv5 hS
 replace hkx1_6:=Zn hx5.1 hkx1_6
 replace hE:=Qd hE hx5
 refine Qc (Qj (v5) rfl) ?_
 refine Qf (Qa ?_)
 cases hz
 exact Q4 (Yg rfl rfl ⟨_,M5,_,rfl,hE,(hS.sel (H':=[.box bx1 cx1 90,.stk ux1_6 9 1 xsx1_6]) [1,2] (by decide) rfl),v5,ux1_6,xsx1_6,rfl,rfl,hv5,hkx1_6,hpx1_6⟩)
def q1u (fu:Nat) (x1:Int):Option GReply :=
 (some ({ code:=x1,n:=Zr.zd,values:=Zr.zd }:GReply)).bind fun d5 =>
 (some d5).bind fun d8 =>
 some d8
theorem qwj {M:Mm} {w:World} {x1:Int} {fu:Nat} {r:GReply} (hA:Agree M w)  (hz:q1u fu x1=some r) :
    Calls Try.prog 46 #[.int .i64 x1] w (Gives M w (fun M' u => ∃ cs,u = .agg cs.toArray∧rep M' cs r)):=by
 refine Zh Try.func46 rfl 5 rfl rfl (by kernel_rfl) fun T hT => ?_
 have hT_0:T 0 = .int .i64 x1:=hT 0
 clear hT
 have hE:=Qg w.heap.size noX M
 have hS:St w noX M [] w:=Zx hA
 rw [q1u] at hz
 refine Qh <|Qi ?_
 refine Qs (Zg q3n hS ?_)
 intro b3 w2 hb3 hS
 have zb3:rep M (Zr.zc GReply) (Zr.zd:GReply):=Zr.zr
 refine Qf (Qa ?_)
 refine Qh <|Qi <|Qc (Qe (.int .i64 x1) hT_0) ?_
 have k4_0:=Vy (Zr.zr:rep M (Zr.zc GReply) (Zr.zd:GReply)) (ri x1:rep M _ _)
 obtain ⟨d5,hd4,hz⟩:=Qb hz
 obtain ⟨cs4,hf4,ha4⟩ : ∃ cs,qbj (([(0,1),(1,1),(2,1)]:List (Nat × Nat))[·]?) (Zr.zc GReply) [(0,.int .i64 x1)]=some cs∧rep M cs d5:=⟨_,(Q9 (Zr.zr:rep M (Zr.zc GReply) (Zr.zd:GReply)) rfl rfl (Rep.len (ri x1:rep M _ _)) (by decide) Z2),Z3 (x:=({ code:=x1,n:=Zr.zd,values:=Zr.zd }:GReply)) k4_0 hd4⟩
 refine Qc (Zt [(0,.int .i64 x1)] qy1 (Ym rfl Vb) hf4) ?_
 obtain ⟨d8,hd7,hz⟩:=Qb hz
 refine Qs (Q8 0 3 hS rfl zb3 rfl rfl ha4 rfl rfl (Lf (rr zb3) ha4) hd7 ?_)
 intro cs7 w6 hb7 ha7 hs7 hS
 refine Qf (Qa ?_)
 cases hz
 exact Q4 (Jq (j:=0) rfl rfl (by rw [Rep.len hb7];exact Kn) hS rfl (Zk (Ql hS) hE ⟨_,rfl,hb7⟩))
def qi7 (y16:Int) (rec17:GCluster→(List ByteArray)→Int→Option (GCluster × (List ByteArray))) (d26:GCluster) (l29:List ByteArray):Option (GCluster × (List ByteArray)) :=
 rec17 d26 l29 (IntKind.wrap .i64 (y16+1))
def qi8 (d10:GCluster) (l13:List ByteArray) (y16:Int) (rec17:GCluster→(List ByteArray)→Int→Option (GCluster × (List ByteArray))) (r45:ByteArray × Int) (c49:Bool):Option (GCluster × (List ByteArray)) :=
 (bif c49 then
 (q3k r45.1).bind fun _ =>
 (app l13 ([r45.1]:List ByteArray)).bind fun l57 =>
 (some ({ d10 with net:=Hole.mk }:GCluster)).bind fun d60 =>
 qi7 y16 rec17 d60 l57
 else
 qi7 y16 rec17 d10 l13)
def qdk (fu:Nat) (x4:List GFrame):Nat→GCluster→(List ByteArray)→Int→Option (GCluster × (List ByteArray))
 | 0,_,_,_=>none
 | n+1,d10,l13,y16 =>
 (bif decide (y16<(x4.length:Int)) then
 (idx x4 y16).bind fun x35 =>
 (some x35).bind fun d41 =>
 (qiv fu d41).bind fun r45 =>
 (bif r45.2==0 then
 qi8 d10 l13 y16 (qdk fu x4 n) r45 (decide ((l13.length:Int)<60))
 else
 qi8 d10 l13 y16 (qdk fu x4 n) r45 false)
 else
 some (d10,l13))
def qkw (fu:Nat) (x1:GCluster) (l3:List ByteArray) (x4:List GFrame):Option (GCluster × (List ByteArray)) :=
 qdk fu x4 fu x1 l3 0
theorem qls {M:Mm} {w:World} {bx1:Nat} {cx1:List Value} {ux1_6:Value} {xsx1_6:List Value} {vx4:Value} {x1:GCluster} {l3:List ByteArray} {x4:List GFrame} {fu:Nat} {r:GCluster × (List ByteArray)} (hS:St w (qai [.box bx1 cx1 90,.stk ux1_6 9 1 xsx1_6]) M [.box bx1 cx1 90,.stk ux1_6 9 1 xsx1_6] w) (hcx1:rep M cx1 x1) (hkx1_6:skr M ux1_6 xsx1_6 l3) (hpx1_6:sl cx1 1993 1=[ux1_6]) (hvx4:repL M vx4 x4) (hz:qkw fu x1 l3 x4=some r) :
    Calls Try.prog 49 #[.pointer (some ⟨bx1,0,none⟩),vx4] w (qcv M w [.box bx1 cx1 90,.stk ux1_6 9 1 xsx1_6] (fun M' u L' => ∃ k0 u1 x1,u = .tuple #[]∧L'=[.box bx1 k0 90,.stk u1 9 1 x1]∧rep M' k0 r.1∧skr M' u1 x1 r.2∧sl k0 1993 1=[u1])):=by
 refine Zh Try.func49 rfl 40 rfl rfl (by kernel_rfl) fun T hT => ?_
 have hT_0:T 0 = .pointer (some ⟨bx1,0,none⟩):=hT 0
 have hT_1:T 1=vx4:=hT 1
 clear hT
 have hE:=Qg w.heap.size (qai [.box bx1 cx1 90,.stk ux1_6 9 1 xsx1_6]) M
 rw [qkw] at hz
 refine Qh <|Qi <|Qc (Qe (vx4) hT_1) ?_
 obtain ⟨a5,c5,hv5,_⟩:=Q3 hvx4
 refine Qc (Zj Try.underlying96 (Vv hv5 rfl)) <|Qc (Qe (.int .i64 0) rfl) ?_
 refine Qf (Qa ?_)
 refine Qv ?_
 refine Zw (fun k18 T' w' => ∃ M7 cs9 d10 v11 xs12 l13 y16,Mm.ext w.heap.size (qai [.box bx1 cx1 90,.stk ux1_6 9 1 xsx1_6]) M M7∧St w (qai [.box bx1 cx1 90,.stk ux1_6 9 1 xsx1_6]) M7 [.box bx1 cs9 90,.stk v11 9 1 xs12] w'∧rep M7 cs9 d10∧skr M7 v11 xs12 l13∧sl cs9 (0+1993) 1=[v11]∧T' 0 = .pointer (some ⟨bx1,0,none⟩)∧T' 8=vx4∧T' 9 = .int .i64 (x4.length:Int)∧T' 10 = .int .i64 y16∧qdk fu x4 k18 d10 l13 y16=some r) fu ?_ ?_ ?_
 exact ⟨M,cx1,x1,ux1_6,xsx1_6,l3,(0:Int),(Qg _ _ _),hS,hcx1,hkx1_6,hpx1_6,hT_0,rfl,rfl,rfl,hz⟩
 rintro T' w' ⟨_,_,_,_,_,_,_,_,_,_,_,_,_,_,_,_,hz⟩
 rw [qdk] at hz
 cases hz
 intro k18
 rintro T8 w6 ⟨M7,cs9,d10,v11,xs12,l13,y16,hx20,hS,hb9,hk14,hp15,hT8_0,hT8_8,hT8_9,hT8_10,hz⟩
 replace hvx4:=Qz hx20.1 hvx4
 replace hE:=Qd hE hx20
 have hF19:=hx20
 rw [qdk] at hz
 obtain ⟨rec17,hrec17⟩ : ∃ f,f=qdk fu x4 k18:=⟨_,rfl⟩
 rw [← hrec17] at hz
 refine Qh <|Qi <|Qc (Zv hT8_10 hT8_9) ?_
 refine Qf (Qa ?_)
 refine Qh ?_
 refine Qr rfl (fun hc21 => ?_) (fun hc21 => ?_)
 replace hz:=Qn hz hc21
 refine Qt (Qa ?_)
 refine Q0 (fun T' w' => ∃ M23 cs25 d26 v27 xs28 l29,Mm.ext w.heap.size (qai [.box bx1 cx1 90,.stk ux1_6 9 1 xsx1_6]) M7 M23∧St w (qai [.box bx1 cx1 90,.stk ux1_6 9 1 xsx1_6]) M23 [.box bx1 cs25 90,.stk v27 9 1 xs28] w'∧rep M23 cs25 d26∧skr M23 v27 xs28 l29∧sl cs25 (0+1993) 1=[v27]∧T' 0 = .pointer (some ⟨bx1,0,none⟩)∧T' 8=vx4∧T' 9 = .int .i64 (x4.length:Int)∧T' 10 = .int .i64 y16∧qi7 y16 rec17 d26 l29=some r) ?_ ?_
 have hF33:=Qg w.heap.size (qai [.box bx1 cx1 90,.stk ux1_6 9 1 xsx1_6]) M7
 refine Qv <|Qh <|Qi ?_
 obtain ⟨x35,hx34,hz⟩:=Qb hz
 obtain ⟨b34,o34,c34,p34,hv34,hi34,hj34,hM34,hr34⟩:=Yf hvx4 hx34
 replace hr34:rep _ (sl p34 (o34+Int.toNat y16*7) 7) x35:=hr34
 refine Qc (Ys il96 hT8_8 hv34 hT8_10 hi34 hj34) ?_
 have ha36:=hr34
 refine Qc (Zf K1 rfl (hS.bvM hM34) (Rep.len ha36)) ?_
 refine Qs (Zg qy2 hS ?_)
 intro b38 w37 hb38 hS
 have zb38:rep M7 (Zr.zc GFrame) (Zr.zd:GFrame):=Zr.zr
 obtain ⟨d41,hd40,hz⟩:=Qb hz
 refine Qs (Q8 0 7 hS rfl zb38 rfl rfl ha36 rfl rfl (Lf (rr zb38) ha36) hd40 ?_)
 intro cs40 w39 hb40 ha40 hs40 hS
 refine Qf (Qa ?_)
 refine Qh <|Qi ?_
 have ha42:=(rr hb40)
 refine Qc (Zf K1 rfl (hS.bvB 0 rfl) (Rep.len ha42)) ?_
 obtain ⟨r45,hr44,hz⟩:=Qb hz
 refine Qs (Z6 (vs:=[.agg (sl cs40 (0) 7).toArray]) (v := .tuple #[.string r45.1,.int .i64 r45.2]) cb70 (Zu rfl) hS (q1m hS.agree ha42 hr44) ?_)
 intro w43 hS
 refine Qc (Qe (.tuple #[.string r45.1,.int .i64 r45.2]) rfl) <|Qc (Q7 (v := .string r45.1) rfl rfl) <|Qc (Q7 (v := .int .i64 r45.2) rfl rfl) <|Q2 2 rfl ?_
 refine Qf (Qa ?_)
 refine Q0 (fun T' w' => ∃ M47 c49,Mm.ext w.heap.size (qai [.box bx1 cx1 90,.stk ux1_6 9 1 xsx1_6]) M7 M47∧St w (qai [.box bx1 cx1 90,.stk ux1_6 9 1 xsx1_6]) M47 [.box b38 cs40 118,.box bx1 cs9 90,.stk v11 9 1 xs12] w'∧T' 0 = .pointer (some ⟨bx1,0,none⟩)∧T' 6 = .string r45.1∧T' 8=vx4∧T' 9 = .int .i64 (x4.length:Int)∧T' 10 = .int .i64 y16∧T' 28 = .bool c49∧qi8 d10 l13 y16 rec17 r45 c49=some r) ?_ ?_
 have hF62:=Qg w.heap.size (qai [.box bx1 cx1 90,.stk ux1_6 9 1 xsx1_6]) M7
 refine Qi <|Qc (Qe (.int .i64 r45.2) rfl) <|Qc (Yd rfl rfl) <|Qc (Qe (.bool (r45.2==0)) rfl) ?_
 rcases ic hz with ⟨hc63,hz⟩ | ⟨hc63,hz⟩<;>rw [hc63]
 refine Qk rfl rfl (Qe (.pointer (some ⟨bx1,0,none⟩)) hT8_0) <|Qk rfl rfl (Q6 rfl) <|Qk rfl rfl (Qp Jp rfl) <|Qk rfl rfl (Qm v11 q7a rfl (hS.bvB 1 rfl) hp15) ?_
 obtain ⟨a64,c64,hv64,_⟩:=Vj hk14
 refine Qk rfl rfl (Zj Yn (Vv hv64 rfl)) <|Qk rfl rfl (Zv rfl rfl) <|Qc (Zy (.bool (decide ((l13.length:Int)<60))) rfl rfl) ?_
 refine Qf (Qa ?_)
 exact ⟨M7,(decide ((l13.length:Int)<60)),hF62,hS,hT8_0,rfl,hT8_8,hT8_9,hT8_10,rfl,hz⟩
 refine Q2 7 rfl ?_
 refine Qf (Qa ?_)
 exact ⟨M7,false,hF62,hS,hT8_0,rfl,hT8_8,hT8_9,hT8_10,rfl,hz⟩
 rintro T48 w46 ⟨M47,c49,hx50,hS,hT48_0,hT48_6,hT48_8,hT48_9,hT48_10,hT48_28,hz⟩
 replace hb9:=Rep.mono hx50.1 hb9
 replace hk14:=Zn hx50.1 hk14
 replace hF33:=Qd hF33 hx50
 rw [qi8] at hz
 refine Qr hT48_28 (fun hc51 => ?_) (fun hc51 => ?_)
 replace hz:=Qn hz hc51
 refine Qi <|Qc (Qe (.pointer (some ⟨bx1,0,none⟩)) hT48_0) <|Qc (Qe (.pointer (some ⟨bx1,0,none⟩)) hT48_0) <|Qc (Q6 rfl) <|Qc (Qp Jp rfl) <|Qc (Qm v11 q7a rfl (hS.bvB 1 rfl) hp15) <|Qc (Qe (.string r45.1) hT48_6) ?_
 obtain ⟨_,hx53,hz⟩:=Qb hz
 have hx53:=Ke hx53
 refine Qs (Z0 (α := ByteArray) (l:=([r45.1]:List ByteArray)) [.string r45.1] tl72 (Ym rfl Vb) rfl rfl (by decide) (by decide) (by decide) hS (K3 (Vw hx53:rep M47 [Value.string r45.1] r45.1) Jk) ?_)
 intro v54 M54 w52 hx54 hv54 hS
 replace hb9:=Rep.mono hx54.1 hb9
 replace hk14:=Zn hx54.1 hk14
 replace hF33:=Qd hF33 hx54
 obtain ⟨l57,hr56,hz⟩:=Qb hz
 obtain ⟨hy56,hs56⟩:=Z1 hr56
 refine Qs (q1g (α := ByteArray) (j:=2) q8p hS rfl rfl rfl hk14 hv54 hy56 ?_)
 intro v56 xs56 w55 hk56 hS
 rw [← hs56] at hk56
 clear hr56 hs56
 refine Qc (Q6 rfl) <|Qc (Qp Jp rfl) ?_
 obtain ⟨d60,hd59,hz⟩:=Qb hz
 refine Qs (Q8 1 1 hS rfl hb9 rfl rfl (Ki hk56) (qk7 hk56) rfl (GCluster.u6 (rr hb9) (Lf (GCluster.p6 (rr hb9)) (Ki hk56))) hd59 ?_)
 intro cs59 w58 hb59 ha59 hs59 hS
 have hp61:=hs59
 refine Qf (Za ?_)
 refine (Qa ?_)
 exact ⟨M54,cs59,d60,v56,xs56,l57,hF33,(Y2 hS hb38),hb59,hk56,hp61,hT48_0,hT48_8,hT48_9,hT48_10,hz⟩
 replace hz:=Qo hz hc51
 refine Qt (Za ?_)
 refine (Qa ?_)
 exact ⟨M47,cs9,d10,v11,xs12,l13,hF33,(Y2 hS hb38),hb9,hk14,hp15,hT48_0,hT48_8,hT48_9,hT48_10,hz⟩
 rintro T24 w22 ⟨M23,cs25,d26,v27,xs28,l29,hx32,hS,hb25,hk30,hp31,hT24_0,hT24_8,hT24_9,hT24_10,hz⟩
 replace hF19:=Qd hF19 hx32
 rw [qi7] at hz
 refine Qi <|Qc (Zz hT24_10 rfl) <|Qc (Qe (.int .i64 (IntKind.wrap .i64 (y16+1))) rfl) ?_
 refine Qf (Qa ?_)
 exact ⟨M23,cs25,d26,v27,xs28,l29,(IntKind.wrap .i64 (y16+1)),hF19,hS,hb25,hk30,hp31,hT24_0,hT24_8,hT24_9,rfl,(by rw [← hrec17];exact hz)⟩
 replace hz:=Qo hz hc21
 refine Zq <|Qy <|Qy <|Zs ?_
 cases hz
 exact (qxk (zal rfl  ⟨_,M7,_,rfl,hE,(hS.sel (H':=[.box bx1 cs9 90,.stk v11 9 1 xs12]) [0,1] (by decide) rfl),cs9,v11,xs12,rfl,rfl,hb9,hk14,hp15⟩))
def qlt (fu:Nat) (x1:GCluster) (l3:List ByteArray) (x4:List GOp):Option (GReply × GCluster × (List ByteArray)) :=
 (bif decide (x1.begun≥32) then
 (some ({ code:=5,n:=Zr.zd,values:=Zr.zd }:GReply)).bind fun d9 =>
 (some d9).bind fun d12 =>
 some (d12,x1,l3)
 else
 (some ({ id:=x1.begun,ops:=x4 }:GTxn)).bind fun d14 =>
 (qg1 fu d14).bind fun r17 =>
 (some r17.1).bind fun d22 =>
 (bif r17.2.2 != 0 then
 (some ({ code:=r17.2.2,n:=Zr.zd,values:=Zr.zd }:GReply)).bind fun d25 =>
 (some d25).bind fun d28 =>
 some (d28,x1,l3)
 else
 (inR x1.begun 32).bind fun _ =>
 (qa7 x1.cases x1.begun).bind fun x37 =>
 (qe2 x1.cases x1.begun d22).bind fun a39 =>
 (some ({ x1 with cases:=a39 }:GCluster)).bind fun d41 =>
 (some ({ d41 with begun:=IntKind.wrap .i64 (d41.begun+1) }:GCluster)).bind fun d46 =>
 (qkw fu d46 l3 r17.2.1).bind fun r50 =>
 (some ({ code:=Zr.zd,n:=IntKind.wrap .i64 (r50.1.begun-1),values:=Zr.zd }:GReply)).bind fun d52 =>
 (some d52).bind fun d55 =>
 some (d55,r50.1,r50.2)))
theorem qy8 {M:Mm} {w:World} {bx1:Nat} {cx1:List Value} {ux1_6:Value} {xsx1_6:List Value} {vx4:Value} {x1:GCluster} {l3:List ByteArray} {x4:List GOp} {fu:Nat} {r:GReply × GCluster × (List ByteArray)} (hS:St w (qai [.box bx1 cx1 90,.stk ux1_6 9 1 xsx1_6]) M [.box bx1 cx1 90,.stk ux1_6 9 1 xsx1_6] w) (hcx1:rep M cx1 x1) (hkx1_6:skr M ux1_6 xsx1_6 l3) (hpx1_6:sl cx1 1993 1=[ux1_6]) (hvx4:repL M vx4 x4) (hz:qlt fu x1 l3 x4=some r) :
    Calls Try.prog 47 #[.pointer (some ⟨bx1,0,none⟩),vx4] w (qcv M w [.box bx1 cx1 90,.stk ux1_6 9 1 xsx1_6] (fun M' u L' => ∃ c0 k0 u1 x1,u = .agg c0.toArray∧L'=[.box bx1 k0 90,.stk u1 9 1 x1]∧rep M' c0 r.1∧rep M' k0 r.2.1∧skr M' u1 x1 r.2.2∧sl k0 1993 1=[u1])):=by
 refine Zh Try.func47 rfl 54 rfl rfl (by kernel_rfl) fun T hT => ?_
 have hT_0:T 0 = .pointer (some ⟨bx1,0,none⟩):=hT 0
 have hT_1:T 1=vx4:=hT 1
 clear hT
 have hE:=Qg w.heap.size (qai [.box bx1 cx1 90,.stk ux1_6 9 1 xsx1_6]) M
 rw [qlt] at hz
 refine Qh <|Qi ?_
 refine Qs (Zg q3n hS ?_)
 intro b6 w5 hb6 hS
 have zb6:rep M (Zr.zc GReply) (Zr.zd:GReply):=Zr.zr
 refine Qf (Qa ?_)
 refine Qh <|Qh <|Qi <|Qc (Qe (.pointer (some ⟨bx1,0,none⟩)) hT_0) <|Qc (Q6 rfl) <|Qc (Qp qos rfl) <|Qc (Qm (.int .i64 x1.begun) Yb rfl (hS.bvB 1 rfl) (Vt (rr hcx1))) <|Qc (Vd rfl rfl) ?_
 refine Qf (Qa ?_)
 refine Qr rfl (fun hc7 => ?_) (fun hc7 => ?_)
 replace hz:=Qn hz hc7
 refine Qh <|Qi ?_
 have k8_0:=Vy (Zr.zr:rep M (Zr.zc GReply) (Zr.zd:GReply)) (ri 5:rep M _ _)
 obtain ⟨d9,hd8,hz⟩:=Qb hz
 obtain ⟨cs8,hf8,ha8⟩ : ∃ cs,qbj (([(0,1),(1,1),(2,1)]:List (Nat × Nat))[·]?) (Zr.zc GReply) [(0,.int .i64 5)]=some cs∧rep M cs d9:=⟨_,(Q9 (Zr.zr:rep M (Zr.zc GReply) (Zr.zd:GReply)) rfl rfl (Rep.len (ri 5:rep M _ _)) (by decide) Z2),Z3 (x:=({ code:=5,n:=Zr.zd,values:=Zr.zd }:GReply)) k8_0 hd8⟩
 refine Qc (Zt [(0,.int .i64 5)] qy1 (Ym rfl Vb) hf8) ?_
 obtain ⟨d12,hd11,hz⟩:=Qb hz
 refine Qs (Q8 0 3 hS rfl zb6 rfl rfl ha8 rfl rfl (Lf (rr zb6) ha8) hd11 ?_)
 intro cs11 w10 hb11 ha11 hs11 hS
 refine Qf (Qa ?_)
 cases hz
 exact Q4 (Qq (Jq (j:=0) rfl rfl (by rw [Rep.len hb11];exact Kn) hS rfl ⟨_,M,_,rfl,hE,(hS.sel (H':=[.box bx1 cx1 90,.stk ux1_6 9 1 xsx1_6]) [1,2] (by decide) rfl),cs11,cx1,ux1_6,xsx1_6,rfl,rfl,hb11,hcx1,hkx1_6,hpx1_6⟩))
 replace hz:=Qo hz hc7
 refine Qt (Qa ?_)
 refine Qh <|Qi <|Qc (Qe (.pointer (some ⟨bx1,0,none⟩)) hT_0) <|Qc (Q6 rfl) <|Qc (Qp qos rfl) <|Qc (Qm (.int .i64 x1.begun) Yb rfl (hS.bvB 1 rfl) (Vt (rr hcx1))) <|Qc (Qe (vx4) hT_1) ?_
 have k13_0:=GTxn.w0 (Zr.zr:rep M (Zr.zc GTxn) (Zr.zd:GTxn)) (ri x1.begun:rep M _ _)
 have k13_1:=GTxn.w1 k13_0 (Q1 hvx4)
 obtain ⟨d14,hd13,hz⟩:=Qb hz
 obtain ⟨cs13,hf13,ha13⟩ : ∃ cs,qbj (([(0,1),(1,1)]:List (Nat × Nat))[·]?) (Zr.zc GTxn) [(0,.int .i64 x1.begun),(1,vx4)]=some cs∧rep M cs d14:=⟨_,(Q9 (Zr.zr:rep M (Zr.zc GTxn) (Zr.zd:GTxn)) rfl rfl (Rep.len (ri x1.begun:rep M _ _)) (by decide) (Q9 k13_0 rfl (Zc hvx4) (Rep.len (Q1 hvx4)) (by decide) Z2)),Z3 (x:=({ id:=x1.begun,ops:=x4 }:GTxn)) k13_1 hd13⟩
 refine Qc (Zt [(0,.int .i64 x1.begun),(1,vx4)] za1 (Ym rfl (Ym rfl Vb)) hf13) ?_
 obtain ⟨r17,hr16,hz⟩:=Qb hz
 refine Qs (Y0 (vs:=[.agg cs13.toArray]) (rv:=(fun M' u => ∃ c0 v1,u = .tuple #[.agg c0.toArray,v1,.int .i64 r17.2.2]∧rep M' c0 r17.1∧repL M' v1 r17.2.1)) cb65 (Zu rfl) hS (qtu hS.agree ha13 hr16) ?_)
 intro u16 M16 w15 hx16 hu16 hS
 obtain ⟨c16_0,v16_1,hq16,f16_0,f16_1⟩:=hu16
 subst hq16
 replace hcx1:=Rep.mono hx16.1 hcx1
 replace hkx1_6:=Zn hx16.1 hkx1_6
 replace zb6:=Rep.mono hx16.1 zb6
 replace hE:=Qd hE hx16
 refine Qc (Qe (.tuple #[.agg c16_0.toArray,v16_1,.int .i64 r17.2.2]) rfl) <|Qc (Q7 (v := .agg c16_0.toArray) rfl rfl) <|Qc (Q7 (v:=v16_1) rfl rfl) <|Qc (Q7 (v := .int .i64 r17.2.2) rfl rfl) ?_
 refine Qs (Zg q32 hS ?_)
 intro b19 w18 hb19 hS
 have zb19:rep M16 (Zr.zc GCase) (Zr.zd:GCase):=Zr.zr
 obtain ⟨d22,hd21,hz⟩:=Qb hz
 refine Qs (Q8 0 24 hS rfl zb19 rfl rfl f16_0 rfl rfl (Lf (rr zb19) f16_0) hd21 ?_)
 intro cs21 w20 hb21 ha21 hs21 hS
 refine Q2 2 rfl ?_
 refine Qf (Qa ?_)
 refine Qh <|Qh <|Qi <|Qc (Qe (.int .i64 r17.2.2) rfl) <|Qc (Yl rfl rfl) ?_
 refine Qf (Qa ?_)
 refine Qr rfl (fun hc23 => ?_) (fun hc23 => ?_)
 replace hz:=Qn hz hc23
 refine Qh <|Qi <|Qc (Qe (.int .i64 r17.2.2) rfl) ?_
 have k24_0:=Vy (Zr.zr:rep M16 (Zr.zc GReply) (Zr.zd:GReply)) (ri r17.2.2:rep M16 _ _)
 obtain ⟨d25,hd24,hz⟩:=Qb hz
 obtain ⟨cs24,hf24,ha24⟩ : ∃ cs,qbj (([(0,1),(1,1),(2,1)]:List (Nat × Nat))[·]?) (Zr.zc GReply) [(0,.int .i64 r17.2.2)]=some cs∧rep M16 cs d25:=⟨_,(Q9 (Zr.zr:rep M16 (Zr.zc GReply) (Zr.zd:GReply)) rfl rfl (Rep.len (ri r17.2.2:rep M16 _ _)) (by decide) Z2),Z3 (x:=({ code:=r17.2.2,n:=Zr.zd,values:=Zr.zd }:GReply)) k24_0 hd24⟩
 refine Qc (Zt [(0,.int .i64 r17.2.2)] qy1 (Ym rfl Vb) hf24) ?_
 obtain ⟨d28,hd27,hz⟩:=Qb hz
 refine Qs (Q8 1 3 hS rfl zb6 rfl rfl ha24 rfl rfl (Lf (rr zb6) ha24) hd27 ?_)
 intro cs27 w26 hb27 ha27 hs27 hS
 refine Qf (Qa ?_)
 cases hz
 exact Q4 (Qq (Jq (j:=1) rfl rfl (by rw [Rep.len hb27];exact Kn) hS rfl ⟨_,M16,_,rfl,hE,(hS.sel (H':=[.box bx1 cx1 90,.stk ux1_6 9 1 xsx1_6]) [2,3] (by decide) rfl),cs27,cx1,ux1_6,xsx1_6,rfl,rfl,hb27,hcx1,hkx1_6,hpx1_6⟩))
 replace hz:=Qo hz hc23
 refine Qt (Qa ?_)
 refine Qh <|Yu [.box b19 cs21 49,.box bx1 cx1 90] [9] Ya hS fun w29 hS hG30 hR31=>wy 0 rfl (Qe (.pointer (some ⟨bx1,0,none⟩)) hT_0) (fun _=>hR31) <|wy 1 rfl (Qe (.pointer (some ⟨bx1,0,none⟩)) hT_0) (fun _=>hR31) <|wy 2 rfl (Q6 rfl) (fun _=>hR31) <|wy 3 rfl (Qp qos rfl) (fun _=>hR31) <|Y8 4 rfl (Qm (.int .i64 x1.begun) Yb rfl (Yp 1 rfl) (Vt (rr hcx1))) hR31 ?_
 have ha32:=(rr hb21)
 refine Y8 5 rfl (Zf Vc rfl (Yp 0 rfl) (Rep.len ha32)) hR31 <|wy 6 rfl (Q6 rfl) (fun _=>hR31) <|wy 7 rfl (Qp qqx rfl) (fun _=>hR31) ?_
 obtain ⟨u33,hx34,hz⟩:=Qb hz
 obtain ⟨hx34a,hx34b⟩:=Qw hx34
 refine wy 8 rfl (Ze q7c rfl rfl hx34a hx34b) (fun _=>hR31) ?_
 obtain ⟨x37,hx38,hz⟩:=Qb hz
 obtain ⟨a39,hx40,hz⟩:=Qb hz
 obtain ⟨d41,hd36,hz⟩:=Qb hz
 have hq43:=(Zo hx38)
 refine w1 9 rfl (Q8 2 24 hS rfl hcx1 rfl rfl ha32 rfl rfl (GCluster.u4 (rr hcx1) (vu (k:=24) rfl rfl (Ve (rr hcx1)) (Lf (vp (k:=24) rfl rfl (Ve (rr hcx1)) hx38) ha32) hx40)) hd36 ?_)
 intro cs36 w35 hb36 ha36 hs36 hS
 have hp42:=(ha36 (by omega)).trans hpx1_6
 refine ⟨nB,?_⟩
 refine wd (Qa ?_)
 refine Qh <|Qi <|Qc (Qe (.pointer (some ⟨bx1,0,none⟩)) hT_0) <|Qc (Q6 rfl) <|Qc (Qp qos rfl) <|Qc (Qm (.int .i64 d41.begun) Yb rfl (hS.bvB 2 rfl) (Vt (rr hb36))) <|Qc (Zz rfl rfl) <|Qc (Q6 rfl) <|Qc (Qp qos rfl) ?_
 obtain ⟨d46,hd45,hz⟩:=Qb hz
 refine Qs (Q8 2 1 hS rfl hb36 rfl rfl (ri (IntKind.wrap .i64 (d41.begun+1)):rep M16 _ _) rfl rfl (GCluster.u5 (rr hb36) (Lf (Vt (rr hb36)) (ri (IntKind.wrap .i64 (d41.begun+1)):rep M16 _ _))) hd45 ?_)
 intro cs45 w44 hb45 ha45 hs45 hS
 have hp47:=(ha45 (by omega)).trans hp42
 refine Qf (Qa ?_)
 refine Qh <|Qi <|Qc (Qe (.pointer (some ⟨bx1,0,none⟩)) hT_0) <|Qc (Qe (v16_1) rfl) ?_
 obtain ⟨r50,hr49,hz⟩:=Qb hz
 refine Qs (Zl (vs:=[.pointer (some ⟨bx1,0,none⟩),v16_1]) (L:=[.box bx1 cs45 90,.stk ux1_6 9 1 xsx1_6]) (R:=[.box b19 cs21 49,.box b6 (Zr.zc GReply) 40]) (rv:=(fun M' u L' => ∃ k0 u1 x1,u = .tuple #[]∧L'=[.box bx1 k0 90,.stk u1 9 1 x1]∧rep M' k0 r50.1∧skr M' u1 x1 r50.2∧sl k0 1993 1=[u1])) q9n (Z8 rfl rfl) hS (hS.sel [2,3,0,1] (by decide) rfl) (fun hS=>qls hS hb45 hkx1_6 hp47 f16_1 hr49) ?_)
 rintro u49 M49 w48 L49 hx49 ⟨k0_49,u1_49,x1_49,rfl,hL49,f49_0,f49_1,f49_2⟩ hS
 replace hS:=hS _ hL49
 replace zb6:=Rep.mono hx49.1 zb6
 replace hE:=Qd hE hx49
 refine Qf (Qa ?_)
 refine Qh <|Qi <|Qc (Qe (.pointer (some ⟨bx1,0,none⟩)) hT_0) <|Qc (Q6 rfl) <|Qc (Qp qos rfl) <|Qc (Qm (.int .i64 r50.1.begun) Yb rfl (hS.bvB 0 rfl) (Vt (rr f49_0))) <|Qc (Kg rfl rfl) ?_
 have k51_0:=GReply.w1 (Zr.zr:rep M49 (Zr.zc GReply) (Zr.zd:GReply)) (ri (IntKind.wrap .i64 (r50.1.begun-1)):rep M49 _ _)
 obtain ⟨d52,hd51,hz⟩:=Qb hz
 obtain ⟨cs51,hf51,ha51⟩ : ∃ cs,qbj (([(0,1),(1,1),(2,1)]:List (Nat × Nat))[·]?) (Zr.zc GReply) [(1,.int .i64 (IntKind.wrap .i64 (r50.1.begun-1)))]=some cs∧rep M49 cs d52:=⟨_,(Q9 (Zr.zr:rep M49 (Zr.zc GReply) (Zr.zd:GReply)) rfl rfl (Rep.len (ri (IntKind.wrap .i64 (r50.1.begun-1)):rep M49 _ _)) (by decide) Z2),Z3 (x:=({ code:=Zr.zd,n:=IntKind.wrap .i64 (r50.1.begun-1),values:=Zr.zd }:GReply)) k51_0 hd51⟩
 refine Qc (Zt [(1,.int .i64 (IntKind.wrap .i64 (r50.1.begun-1)))] qy1 (Ym rfl Vb) hf51) ?_
 obtain ⟨d55,hd54,hz⟩:=Qb hz
 refine Qs (Q8 3 3 hS rfl zb6 rfl rfl ha51 rfl rfl (Lf (rr zb6) ha51) hd54 ?_)
 intro cs54 w53 hb54 ha54 hs54 hS
 refine Qf (Qa ?_)
 cases hz
 exact Q4 (Jq (j:=3) rfl rfl (by rw [Rep.len hb54];exact Kn) hS rfl ⟨_,M49,_,rfl,hE,(hS.sel (H':=[.box bx1 k0_49 90,.stk u1_49 9 1 x1_49]) [0,1] (by decide) rfl),cs54,k0_49,u1_49,x1_49,rfl,rfl,hb54,f49_0,f49_1,f49_2⟩)
def qmo (fu:Nat) (x1:GCluster) (x2:Int):Option GReply :=
 (inR x2 32).bind fun _ =>
 (qa7 x1.cases x2).bind fun x7 =>
 (qel fu x7).bind fun r12 =>
 (some ({ code:=Zr.zd,n:=x2,values:=r12.1 }:GReply)).bind fun d14 =>
 (some d14).bind fun d17 =>
 some d17
theorem qt4 {M:Mm} {w:World} {bx1:Nat} {cx1:List Value} {x1:GCluster} {x2:Int} {fu:Nat} {r:GReply} (hS:St w (qai [.box bx1 cx1 90]) M [.box bx1 cx1 90] w) (hcx1:rep M cx1 x1) (hz:qmo fu x1 x2=some r) :
    Calls Try.prog 51 #[.pointer (some ⟨bx1,0,none⟩),.int .i64 x2] w (qcv M w [.box bx1 cx1 90] (fun M' u L' => ∃ c0,u = .agg c0.toArray∧L'=[.box bx1 cx1 90]∧rep M' c0 r)):=by
 refine Zh Try.func51 rfl 20 rfl rfl (by kernel_rfl) fun T hT => ?_
 have hT_0:T 0 = .pointer (some ⟨bx1,0,none⟩):=hT 0
 have hT_1:T 1 = .int .i64 x2:=hT 1
 clear hT
 have hE:=Qg w.heap.size (qai [.box bx1 cx1 90]) M
 rw [qmo] at hz
 refine Qh <|Qi ?_
 refine Qs (Zg q3n hS ?_)
 intro b4 w3 hb4 hS
 have zb4:rep M (Zr.zc GReply) (Zr.zd:GReply):=Zr.zr
 refine Qf (Qa ?_)
 refine Qh <|Qi <|Qc (Qe (.pointer (some ⟨bx1,0,none⟩)) hT_0) <|Qc (Qe (.int .i64 x2) hT_1) <|Qc (Q6 rfl) <|Qc (Qp qqx rfl) ?_
 obtain ⟨u5,hx6,hz⟩:=Qb hz
 obtain ⟨hx6a,hx6b⟩:=Qw hx6
 refine Qc (Ze q7c rfl rfl hx6a hx6b) ?_
 obtain ⟨x7,hx8,hz⟩:=Qb hz
 have ha9:=(vp (k:=24) rfl rfl (Ve (rr hcx1)) hx8)
 refine Qc (Zf Vc rfl (hS.bvB 1 rfl) (Rep.len ha9)) ?_
 obtain ⟨r12,hr11,hz⟩:=Qb hz
 refine Qs (Y0 (vs:=[.agg (sl cx1 (0+1224+Int.toNat x2*24) 24).toArray]) (rv:=(fun M' u => ∃ v0,u = .tuple #[v0,.bool r12.2]∧repL M' v0 r12.1)) cb28 (Zu rfl) hS (qld hS.agree ha9 hr11) ?_)
 intro u11 M11 w10 hx11 hu11 hS
 obtain ⟨v11_0,hq11,f11_0⟩:=hu11
 subst hq11
 replace zb4:=Rep.mono hx11.1 zb4
 replace hE:=Qd hE hx11
 refine Qc (Qe (.tuple #[v11_0,.bool r12.2]) rfl) <|Qc (Q7 (v:=v11_0) rfl rfl) <|Qc (Q7 (v := .bool r12.2) rfl rfl) <|Q2 2 rfl ?_
 refine Qf (Qa ?_)
 refine Qh <|Qi <|Qc (Qe (.int .i64 x2) hT_1) <|Qc (Qe (v11_0) rfl) ?_
 have k13_0:=GReply.w1 (Zr.zr:rep M11 (Zr.zc GReply) (Zr.zd:GReply)) (ri x2:rep M11 _ _)
 have k13_1:=GReply.w2 k13_0 (Q1 f11_0)
 obtain ⟨d14,hd13,hz⟩:=Qb hz
 obtain ⟨cs13,hf13,ha13⟩ : ∃ cs,qbj (([(0,1),(1,1),(2,1)]:List (Nat × Nat))[·]?) (Zr.zc GReply) [(1,.int .i64 x2),(2,v11_0)]=some cs∧rep M11 cs d14:=⟨_,(Q9 (Zr.zr:rep M11 (Zr.zc GReply) (Zr.zd:GReply)) rfl rfl (Rep.len (ri x2:rep M11 _ _)) (by decide) (Q9 k13_0 rfl (Zc f11_0) (Rep.len (Q1 f11_0)) (by decide) Z2)),Z3 (x:=({ code:=Zr.zd,n:=x2,values:=r12.1 }:GReply)) k13_1 hd13⟩
 refine Qc (Zt [(1,.int .i64 x2),(2,v11_0)] qy1 (Ym rfl (Ym rfl Vb)) hf13) ?_
 obtain ⟨d17,hd16,hz⟩:=Qb hz
 refine Qs (Q8 0 3 hS rfl zb4 rfl rfl ha13 rfl rfl (Lf (rr zb4) ha13) hd16 ?_)
 intro cs16 w15 hb16 ha16 hs16 hS
 refine Qf (Qa ?_)
 cases hz
 exact Q4 (Jq (j:=0) rfl rfl (by rw [Rep.len hb16];exact Kn) hS rfl ⟨_,M11,_,rfl,hE,(hS.sel (H':=[.box bx1 cx1 90]) [1] (by decide) rfl),cs16,rfl,rfl,hb16⟩)
def qlu (fu:Nat) (x1:GCluster) (l3:List ByteArray) (x4:Int) (x6:ByteArray) (d18:GNode) (l19:List GFrame) (y21:Int):Option (Int × GCluster × (List ByteArray)) :=
 (bif y21 != 0 then
 some (y21,x1,l3)
 else
 (inR x4 6).bind fun _ =>
 (qa7 x1.tear x4).bind fun x26 =>
 (bif decide (x26>0) then
 (inR x4 6).bind fun _ =>
 (qa7 x1.logs x4).bind fun x34 =>
 (inR x4 6).bind fun _ =>
 (qa7 x1.tear x4).bind fun x38 =>
 (qo6 fu x34 x6 (IntKind.wrap .i64 (x38-1))).bind fun r42 =>
 (inR x4 6).bind fun _ =>
 (q3k r42).bind fun _ =>
 (qa7 x1.logs x4).bind fun x49 =>
 (qe2 x1.logs x4 r42).bind fun a51 =>
 (some ({ x1 with logs:=a51 }:GCluster)).bind fun d53 =>
 (some ({ entries:=Zr.zd,order:=Zr.zd,values:=Zr.zd }:GNode)).bind fun d60 =>
 (inR x4 6).bind fun _ =>
 (qa7 d53.nodes x4).bind fun x65 =>
 (qe2 d53.nodes x4 d60).bind fun a67 =>
 (some ({ d53 with nodes:=a67 }:GCluster)).bind fun d69 =>
 (inR x4 6).bind fun _ =>
 (qa7 d69.down x4).bind fun x77 =>
 (qe2 d69.down x4 true).bind fun a79 =>
 (some ({ d69 with down:=a79 }:GCluster)).bind fun d81 =>
 (inR x4 6).bind fun _ =>
 (qa7 d81.tear x4).bind fun x89 =>
 (qe2 d81.tear x4 0).bind fun a91 =>
 (some ({ d81 with tear:=a91 }:GCluster)).bind fun d93 =>
 some (6,d93,l3)
 else
 (inR x4 6).bind fun _ =>
 (qa7 x1.logs x4).bind fun x102 =>
 (qjt fu x102 x6).bind fun r106 =>
 (inR x4 6).bind fun _ =>
 (q3k r106.1).bind fun _ =>
 (qa7 x1.logs x4).bind fun x113 =>
 (qe2 x1.logs x4 r106.1).bind fun a115 =>
 (some ({ x1 with logs:=a115 }:GCluster)).bind fun d117 =>
 (bif r106.2 != 0 then
 some (r106.2,d117,l3)
 else
 (inR x4 6).bind fun _ =>
 (qa7 d117.nodes x4).bind fun x129 =>
 (qe2 d117.nodes x4 d18).bind fun a131 =>
 (some ({ d117 with nodes:=a131 }:GCluster)).bind fun d133 =>
 (qkw fu d133 l3 l19).bind fun r139 =>
 some (0,r139.1,r139.2))))
def qo9 (fu:Nat) (x1:GCluster) (l3:List ByteArray) (x4:Int) (x5:GFrame) (x6:ByteArray):Option (Int × GCluster × (List ByteArray)) :=
 (inR x4 6).bind fun _ =>
 (qa7 x1.down x4).bind fun x11 =>
 (bif x11 then
 some (6,x1,l3)
 else
 (inR x4 6).bind fun _ =>
 (qa7 x1.nodes x4).bind fun x146 =>
 (qg4 fu x146 x4 x5).bind fun r152 =>
 (some r152.1).bind fun d157 =>
 qlu fu x1 l3 x4 x6 d157 r152.2.1 r152.2.2)
theorem q1v {M:Mm} {w:World} {bx1:Nat} {cx1:List Value} {ux1_6:Value} {xsx1_6:List Value} {cx5:List Value} {x1:GCluster} {l3:List ByteArray} {x4:Int} {x5:GFrame} {x6:ByteArray} {fu:Nat} {r:Int × GCluster × (List ByteArray)} (hS:St w (qai [.box bx1 cx1 90,.stk ux1_6 9 1 xsx1_6]) M [.box bx1 cx1 90,.stk ux1_6 9 1 xsx1_6] w) (hcx1:rep M cx1 x1) (hkx1_6:skr M ux1_6 xsx1_6 l3) (hpx1_6:sl cx1 1993 1=[ux1_6]) (hcx5:rep M cx5 x5) (hz:qo9 fu x1 l3 x4 x5 x6=some r) :
    Calls Try.prog 68 #[.pointer (some ⟨bx1,0,none⟩),.int .i64 x4,.agg cx5.toArray,.string x6] w (qcv M w [.box bx1 cx1 90,.stk ux1_6 9 1 xsx1_6] (fun M' u L' => ∃ k0 u1 x1,u = .int .i64 r.1∧L'=[.box bx1 k0 90,.stk u1 9 1 x1]∧rep M' k0 r.2.1∧skr M' u1 x1 r.2.2∧sl k0 1993 1=[u1])):=by
 refine Zh Try.func68 rfl 105 rfl rfl (by kernel_rfl) fun T hT => ?_
 have hT_0:T 0 = .pointer (some ⟨bx1,0,none⟩):=hT 0
 have hT_1:T 1 = .int .i64 x4:=hT 1
 have hT_2:T 2 = .agg cx5.toArray:=hT 2
 have hT_3:T 3 = .string x6:=hT 3
 clear hT
 have hE:=Qg w.heap.size (qai [.box bx1 cx1 90,.stk ux1_6 9 1 xsx1_6]) M
 rw [qo9] at hz
 refine Qh <|Qi ?_
 refine Qs (Yo (v := .agg cx5.toArray) (cs:=cx5) hT_2 rfl hS ?_)
 intro b8 w7 hb8 hS
 refine Qc (Qj (.int .i64 0) rfl) ?_
 refine Qf (Qa ?_)
 refine Qh <|Qh <|Qi <|Qc (Qe (.pointer (some ⟨bx1,0,none⟩)) hT_0) <|Qc (Qe (.int .i64 x4) hT_1) <|Qc (Q6 rfl) <|Qc (Qp qqw rfl) ?_
 obtain ⟨u9,hx10,hz⟩:=Qb hz
 obtain ⟨hx10a,hx10b⟩:=Qw hx10
 refine Qc (Ze Jr rfl rfl hx10a hx10b) ?_
 obtain ⟨x11,hx12,hz⟩:=Qb hz
 refine Qc (Qm (.bool x11) Jl rfl (hS.bvB 1 rfl) (vp (k:=1) rfl rfl (Y3 (rr hcx1)) hx12)) ?_
 refine Qf (Qa ?_)
 refine Qr rfl (fun hc13 => ?_) (fun hc13 => ?_)
 replace hz:=Qn hz hc13
 refine Qh <|Qi <|Qc (Qj (.int .i64 6) rfl) ?_
 refine Qf (Qa ?_)
 cases hz
 exact Q4 (Qq (Yg rfl rfl ⟨_,M,_,rfl,hE,(hS.sel (H':=[.box bx1 cx1 90,.stk ux1_6 9 1 xsx1_6]) [1,2] (by decide) rfl),cx1,ux1_6,xsx1_6,rfl,rfl,hcx1,hkx1_6,hpx1_6⟩))
 replace hz:=Qo hz hc13
 refine Qt (Qa ?_)
 refine Q0 (fun T' w' => ∃ M15 b17 cs17 d18 v20 l19 y21,Mm.ext w.heap.size (qai [.box bx1 cx1 90,.stk ux1_6 9 1 xsx1_6]) M M15∧St w (qai [.box bx1 cx1 90,.stk ux1_6 9 1 xsx1_6]) M15 [.box b17 cs17 34,.box b8 cx5 118,.box bx1 cx1 90,.stk ux1_6 9 1 xsx1_6] w'∧rep M15 cs17 d18∧w.heap.size≤b17∧repL M15 v20 l19∧T' 9 = .pointer (some ⟨b17,0,none⟩)∧T' 0 = .pointer (some ⟨bx1,0,none⟩)∧T' 1 = .int .i64 x4∧T' 3 = .string x6∧T' 10=v20∧T' 11 = .int .i64 y21∧qlu fu x1 l3 x4 x6 d18 l19 y21=some r) ?_ ?_
 have hF140:=Qg w.heap.size (qai [.box bx1 cx1 90,.stk ux1_6 9 1 xsx1_6]) M
 refine Yu [.box b8 cx5 118,.box bx1 cx1 90] [] Ya hS fun w141 hS hG142 hR143=>wy 0 rfl (Qe (.pointer (some ⟨bx1,0,none⟩)) hT_0) (fun _=>hR143) <|wy 1 rfl (Qe (.int .i64 x4) hT_1) (fun _=>hR143) <|wy 2 rfl (Q6 rfl) (fun _=>hR143) <|wy 3 rfl (Qp qqv rfl) (fun _=>hR143) ?_
 obtain ⟨u144,hx145,hz⟩:=Qb hz
 obtain ⟨hx145a,hx145b⟩:=Qw hx145
 refine wy 4 rfl (Ze q7b rfl rfl hx145a hx145b) (fun _=>hR143) ?_
 obtain ⟨x146,hx147,hz⟩:=Qb hz
 have ha148:=(vp (k:=201) rfl rfl (Yy (rr hcx1)) hx147)
 refine Y8 5 rfl (Zf Vk rfl (Yp 1 rfl) (Rep.len ha148)) hR143 <|wy 6 rfl (Qe (.int .i64 x4) hT_1) (fun _=>hR143) ?_
 have ha149:=(rr hcx5)
 refine Y8 7 rfl (Zf K1 rfl (Yp 0 rfl) (Rep.len ha149)) hR143 ?_
 obtain ⟨r152,hr151,hz⟩:=Qb hz
 obtain ⟨d157,hd156,hz⟩:=Qb hz
 refine qtl (i:=8) (j:=13) (by kernel_rfl) rfl rfl (Y0 (vs:=[.agg (sl cx1 (0+0+Int.toNat x4*201) 201).toArray,.int .i64 x4,.agg (sl cx5 (0) 7).toArray]) (rv:=(fun M' u => ∃ c0 v1,u = .tuple #[.agg c0.toArray,v1,.int .i64 r152.2.2]∧rep M' c0 r152.1∧repL M' v1 r152.2.1)) zbb (Jj rfl rfl rfl) hS (qkv hS.agree ha148 ha149 hr151) ?_) (Zg qxo hS ?_)
 intro u151 M151 w150 hx151 hu151 hS
 obtain ⟨c151_0,v151_1,hq151,f151_0,f151_1⟩:=hu151
 subst hq151
 replace hF140:=Qd hF140 hx151
 replace hG142:=Qd hG142 hx151
 refine Yq hS hG142 fun hR158=>wy 9 rfl (Qe (.tuple #[.agg c151_0.toArray,v151_1,.int .i64 r152.2.2]) rfl) (fun _=>hR158) <|wy 10 rfl (Q7 (v := .agg c151_0.toArray) rfl rfl) (fun _=>hR158) <|wy 11 rfl (Q7 (v:=v151_1) rfl rfl) (fun _=>hR158) <|wy 12 rfl (Q7 (v := .int .i64 r152.2.2) rfl rfl) (fun _=>hR158) ?_
 refine w1 13 rfl (Zg qxo hS ?_)
 intro b154 w153 hb154 hS
 have zb154:rep M151 (Zr.zc GNode) (Zr.zd:GNode):=Zr.zr
 refine Yq hS hG142 fun hR159 => ?_
 refine w1 14 rfl (Q8 0 201 hS rfl zb154 rfl rfl f151_0 rfl rfl (Lf (rr zb154) f151_0) hd156 ?_)
 intro cs156 w155 hb156 ha156 hs156 hS
 refine Yq hS hG142 fun hR160=>wy 15 rfl (Qj (v151_1) rfl) (fun _=>hR160) <|wy 16 rfl (Qj (.int .i64 r152.2.2) rfl) (fun _=>hR160) ?_
 refine wd (Qa ?_)
 exact ⟨M151,b154,cs156,d157,v151_1,r152.2.1,r152.2.2,hF140,hS,hb156,hb154,f151_1,rfl,hT_0,hT_1,hT_3,rfl,rfl,hz⟩
 intro b154 w153 hb154 hS
 have zb154:rep M (Zr.zc GNode) (Zr.zd:GNode):=Zr.zr
 refine Yq hS hG142 fun hR161 => ?_
 refine w1 8 rfl (Y0 (vs:=[.agg (sl cx1 (0+0+Int.toNat x4*201) 201).toArray,.int .i64 x4,.agg (sl cx5 (0) 7).toArray]) (rv:=(fun M' u => ∃ c0 v1,u = .tuple #[.agg c0.toArray,v1,.int .i64 r152.2.2]∧rep M' c0 r152.1∧repL M' v1 r152.2.1)) zbb (Jj rfl rfl rfl) hS (qkv hS.agree ha148 ha149 hr151) ?_)
 intro u151 M151 w150 hx151 hu151 hS
 obtain ⟨c151_0,v151_1,hq151,f151_0,f151_1⟩:=hu151
 subst hq151
 replace zb154:=Rep.mono hx151.1 zb154
 replace hF140:=Qd hF140 hx151
 replace hG142:=Qd hG142 hx151
 refine Yq hS hG142 fun hR162=>wy 9 rfl (Qe (.tuple #[.agg c151_0.toArray,v151_1,.int .i64 r152.2.2]) rfl) (fun _=>hR162) <|wy 10 rfl (Q7 (v := .agg c151_0.toArray) rfl rfl) (fun _=>hR162) <|wy 11 rfl (Q7 (v:=v151_1) rfl rfl) (fun _=>hR162) <|wy 12 rfl (Q7 (v := .int .i64 r152.2.2) rfl rfl) (fun _=>hR162) ?_
 refine w1 14 rfl (Q8 0 201 hS rfl zb154 rfl rfl f151_0 rfl rfl (Lf (rr zb154) f151_0) hd156 ?_)
 intro cs156 w155 hb156 ha156 hs156 hS
 refine Yq hS hG142 fun hR163=>wy 15 rfl (Qj (v151_1) rfl) (fun _=>hR163) <|wy 16 rfl (Qj (.int .i64 r152.2.2) rfl) (fun _=>hR163) ?_
 refine wd (Qa ?_)
 exact ⟨M151,b154,cs156,d157,v151_1,r152.2.1,r152.2.2,hF140,hS,hb156,hb154,f151_1,rfl,hT_0,hT_1,hT_3,rfl,rfl,hz⟩
 rintro T16 w14 ⟨M15,b17,cs17,d18,v20,l19,y21,hx22,hS,hb17,hs17,hv20,hT16_9,hT16_0,hT16_1,hT16_3,hT16_10,hT16_11,hz⟩
 replace hcx1:=Rep.mono hx22.1 hcx1
 replace hkx1_6:=Zn hx22.1 hkx1_6
 replace hE:=Qd hE hx22
 rw [qlu] at hz
 refine Qh <|Qh <|Qi <|Qc (Qe (.int .i64 y21) hT16_11) <|Qc (Yl rfl rfl) ?_
 refine Qf (Qa ?_)
 refine Qr rfl (fun hc23 => ?_) (fun hc23 => ?_)
 replace hz:=Qn hz hc23
 refine Qh <|Qi <|Qc (Qe (.int .i64 y21) hT16_11) <|Qc (Qj (.int .i64 y21) rfl) ?_
 refine Qf (Qa ?_)
 cases hz
 exact Q4 (Qq (Yg rfl rfl ⟨_,M15,_,rfl,hE,(hS.sel (H':=[.box bx1 cx1 90,.stk ux1_6 9 1 xsx1_6]) [2,3] (by decide) rfl),cx1,ux1_6,xsx1_6,rfl,rfl,hcx1,hkx1_6,hpx1_6⟩))
 replace hz:=Qo hz hc23
 refine Qt (Qa ?_)
 refine Qh <|Qh <|Qi <|Qc (Qe (.pointer (some ⟨bx1,0,none⟩)) hT16_0) <|Qc (Qe (.int .i64 x4) hT16_1) <|Qc (Q6 rfl) <|Qc (Qp qti rfl) ?_
 obtain ⟨u24,hx25,hz⟩:=Qb hz
 obtain ⟨hx25a,hx25b⟩:=Qw hx25
 refine Qc (Ze q8k rfl rfl hx25a hx25b) ?_
 obtain ⟨x26,hx27,hz⟩:=Qb hz
 refine Qc (Qm (.int .i64 x26) Yb rfl (hS.bvB 2 rfl) (vp (k:=1) rfl rfl (Vf (rr hcx1)) hx27)) <|Qc (Yr rfl rfl) ?_
 refine Qf (Qa ?_)
 refine Qr rfl (fun hc28 => ?_) (fun hc28 => ?_)
 replace hz:=Qn hz hc28
 refine Qh <|Yu [.box bx1 cx1 90] [20] Ya hS fun w29 hS hG30 hR31=>wy 0 rfl (Qe (.pointer (some ⟨bx1,0,none⟩)) hT16_0) (fun _=>hR31) <|wy 1 rfl (Qe (.int .i64 x4) hT16_1) (fun _=>hR31) <|wy 2 rfl (Qe (.pointer (some ⟨bx1,0,none⟩)) hT16_0) (fun _=>hR31) <|wy 3 rfl (Qe (.int .i64 x4) hT16_1) (fun _=>hR31) <|wy 4 rfl (Q6 rfl) (fun _=>hR31) <|wy 5 rfl (Qp qor rfl) (fun _=>hR31) ?_
 obtain ⟨u32,hx33,hz⟩:=Qb hz
 obtain ⟨hx33a,hx33b⟩:=Qw hx33
 refine wy 6 rfl (Ze q55 rfl rfl hx33a hx33b) (fun _=>hR31) ?_
 obtain ⟨x34,hx35,hz⟩:=Qb hz
 refine Y8 7 rfl (Qm (.string x34) ts9 rfl (Yp 0 rfl) (vp (k:=1) rfl rfl (Yz (rr hcx1)) hx35).1) hR31 <|wy 8 rfl (Qe (.string x6) hT16_3) (fun _=>hR31) <|wy 9 rfl (Qe (.pointer (some ⟨bx1,0,none⟩)) hT16_0) (fun _=>hR31) <|wy 10 rfl (Qe (.int .i64 x4) hT16_1) (fun _=>hR31) <|wy 11 rfl (Q6 rfl) (fun _=>hR31) <|wy 12 rfl (Qp qti rfl) (fun _=>hR31) ?_
 obtain ⟨u36,hx37,hz⟩:=Qb hz
 obtain ⟨hx37a,hx37b⟩:=Qw hx37
 refine wy 13 rfl (Ze q8k rfl rfl hx37a hx37b) (fun _=>hR31) ?_
 obtain ⟨x38,hx39,hz⟩:=Qb hz
 refine Y8 14 rfl (Qm (.int .i64 x38) Yb rfl (Yp 0 rfl) (vp (k:=1) rfl rfl (Vf (rr hcx1)) hx39)) hR31 <|wy 15 rfl (Kg rfl rfl) (fun _=>hR31) <|wy 17 rfl (Q6 rfl) (fun _=>hR31) <|wy 18 rfl (Qp qor rfl) (fun _=>hR31) ?_
 obtain ⟨r42,hr41,hz⟩:=Qb hz
 refine w1 16 rfl (Z6 (vs:=[.string x34,.string x6,.int .i64 (IntKind.wrap .i64 (x38-1))]) (v := .string r42) cb82 (Jj rfl rfl rfl) hS (q1s hS.agree hr41) ?_)
 intro w40 hS
 refine Yq hS hG30 fun hR43 => ?_
 obtain ⟨u44,hx45,hz⟩:=Qb hz
 obtain ⟨hx45a,hx45b⟩:=Qw hx45
 refine wy 19 rfl (Ze q55 rfl rfl hx45a hx45b) (fun _=>hR43) ?_
 obtain ⟨_,hx47,hz⟩:=Qb hz
 have hx47:=Ke hx47
 obtain ⟨x49,hx50,hz⟩:=Qb hz
 obtain ⟨a51,hx52,hz⟩:=Qb hz
 obtain ⟨d53,hd48,hz⟩:=Qb hz
 have hq55:=(Zo hx50)
 refine w1 20 rfl (Q8 2 1 hS rfl hcx1 rfl rfl (Vw hx47:rep M15 [Value.string r42] r42) rfl rfl (GCluster.u1 (rr hcx1) (vu (k:=1) rfl rfl (Yz (rr hcx1)) (Lf (vp (k:=1) rfl rfl (Yz (rr hcx1)) hx50) (Vw hx47:rep M15 [Value.string r42] r42)) hx52)) hd48 ?_)
 intro cs48 w46 hb48 ha48 hs48 hS
 have hp54:=(ha48 (by omega)).trans hpx1_6
 refine ⟨nB,?_⟩
 refine wd (Qa ?_)
 refine Qh <|Yu [] [] Ya hS fun w56 hS hG57 hR58=>wy 0 rfl (Qe (.pointer (some ⟨bx1,0,none⟩)) hT16_0) (fun _=>hR58) <|wy 1 rfl (Qe (.int .i64 x4) hT16_1) (fun _=>hR58) <|wy 2 rfl (Qe (.pointer (some ⟨bx1,0,none⟩)) hT16_0) (fun _=>hR58) <|wy 3 rfl (Qe (.int .i64 x4) hT16_1) (fun _=>hR58) <|wy 4 rfl (Qe (.pointer (some ⟨bx1,0,none⟩)) hT16_0) (fun _=>hR58) <|wy 5 rfl (Qe (.int .i64 x4) hT16_1) (fun _=>hR58) ?_
 obtain ⟨d60,hd59,hz⟩:=Qb hz
 obtain ⟨cs59,hf59,ha59⟩ : ∃ cs,qbj (([(0,192),(192,1),(193,8)]:List (Nat × Nat))[·]?) (Zr.zc GNode) []=some cs∧rep M15 cs d60:=⟨_,Z2,Z3 (x:=({ entries:=Zr.zd,order:=Zr.zd,values:=Zr.zd }:GNode)) (Zr.zr:rep M15 (Zr.zc GNode) (Zr.zd:GNode)) hd59⟩
 refine wy 6 rfl (Zt [] q8b Vb hf59) (fun _=>hR58) <|wy 7 rfl (Q6 rfl) (fun _=>hR58) <|wy 8 rfl (Qp qqv rfl) (fun _=>hR58) ?_
 obtain ⟨u61,hx62,hz⟩:=Qb hz
 obtain ⟨hx62a,hx62b⟩:=Qw hx62
 refine wy 9 rfl (Ze q7b rfl rfl hx62a hx62b) (fun _=>hR58) <|wy 11 rfl (Q6 rfl) (fun _=>hR58) <|wy 12 rfl (Qp qqw rfl) (fun _=>hR58) <|wy 15 rfl (Q6 rfl) (fun _=>hR58) <|wy 16 rfl (Qp qti rfl) (fun _=>hR58) ?_
 obtain ⟨x65,hx66,hz⟩:=Qb hz
 obtain ⟨a67,hx68,hz⟩:=Qb hz
 obtain ⟨d69,hd64,hz⟩:=Qb hz
 have hq71:=(Zo hx66)
 refine w1 10 rfl (Q8 2 201 hS rfl hb48 rfl rfl ha59 rfl rfl (K9 (rr hb48) (vu (k:=201) rfl rfl (Yy (rr hb48)) (Lf (vp (k:=201) rfl rfl (Yy (rr hb48)) hx66) ha59) hx68)) hd64 ?_)
 intro cs64 w63 hb64 ha64 hs64 hS
 have hp70:=(ha64 (by omega)).trans hp54
 refine Yq hS hG57 fun hR72 => ?_
 obtain ⟨u73,hx74,hz⟩:=Qb hz
 obtain ⟨hx74a,hx74b⟩:=Qw hx74
 refine wy 13 rfl (Ze Jr rfl rfl hx74a hx74b) (fun _=>hR72) ?_
 obtain ⟨x77,hx78,hz⟩:=Qb hz
 obtain ⟨a79,hx80,hz⟩:=Qb hz
 obtain ⟨d81,hd76,hz⟩:=Qb hz
 have hq83:=(Zo hx78)
 refine w1 14 rfl (Q8 2 1 hS rfl hb64 rfl rfl (rb true:rep M15 _ _) rfl rfl (GCluster.u2 (rr hb64) (vu (k:=1) rfl rfl (Y3 (rr hb64)) (Lf (vp (k:=1) rfl rfl (Y3 (rr hb64)) hx78) (rb true:rep M15 _ _)) hx80)) hd76 ?_)
 intro cs76 w75 hb76 ha76 hs76 hS
 have hp82:=(ha76 (by omega)).trans hp70
 refine Yq hS hG57 fun hR84 => ?_
 obtain ⟨u85,hx86,hz⟩:=Qb hz
 obtain ⟨hx86a,hx86b⟩:=Qw hx86
 refine wy 17 rfl (Ze q8k rfl rfl hx86a hx86b) (fun _=>hR84) ?_
 obtain ⟨x89,hx90,hz⟩:=Qb hz
 obtain ⟨a91,hx92,hz⟩:=Qb hz
 obtain ⟨d93,hd88,hz⟩:=Qb hz
 have hq95:=(Zo hx90)
 refine w1 18 rfl (Q8 2 1 hS rfl hb76 rfl rfl (ri 0:rep M15 _ _) rfl rfl (GCluster.u3 (rr hb76) (vu (k:=1) rfl rfl (Vf (rr hb76)) (Lf (vp (k:=1) rfl rfl (Vf (rr hb76)) hx90) (ri 0:rep M15 _ _)) hx92)) hd88 ?_)
 intro cs88 w87 hb88 ha88 hs88 hS
 have hp94:=(ha88 (by omega)).trans hp82
 refine Yq hS hG57 fun hR96 => ?_
 refine wd (Qa ?_)
 refine Qh <|Qi <|Qc (Qj (.int .i64 6) rfl) ?_
 refine Qf (Qa ?_)
 cases hz
 exact Q4 (Qq (Yg rfl rfl ⟨_,M15,_,rfl,hE,(hS.sel (H':=[.box bx1 cs88 90,.stk ux1_6 9 1 xsx1_6]) [2,3] (by decide) rfl),cs88,ux1_6,xsx1_6,rfl,rfl,hb88,hkx1_6,hp94⟩))
 replace hz:=Qo hz hc28
 refine Qt (Qa ?_)
 refine Qh <|Qh <|Yu [.box bx1 cx1 90] [16] Ya hS fun w97 hS hG98 hR99=>wy 0 rfl (Qe (.pointer (some ⟨bx1,0,none⟩)) hT16_0) (fun _=>hR99) <|wy 1 rfl (Qe (.int .i64 x4) hT16_1) (fun _=>hR99) <|wy 2 rfl (Qe (.pointer (some ⟨bx1,0,none⟩)) hT16_0) (fun _=>hR99) <|wy 3 rfl (Qe (.int .i64 x4) hT16_1) (fun _=>hR99) <|wy 4 rfl (Q6 rfl) (fun _=>hR99) <|wy 5 rfl (Qp qor rfl) (fun _=>hR99) ?_
 obtain ⟨u100,hx101,hz⟩:=Qb hz
 obtain ⟨hx101a,hx101b⟩:=Qw hx101
 refine wy 6 rfl (Ze q55 rfl rfl hx101a hx101b) (fun _=>hR99) ?_
 obtain ⟨x102,hx103,hz⟩:=Qb hz
 refine Y8 7 rfl (Qm (.string x102) ts9 rfl (Yp 0 rfl) (vp (k:=1) rfl rfl (Yz (rr hcx1)) hx103).1) hR99 <|wy 8 rfl (Qe (.string x6) hT16_3) (fun _=>hR99) <|wy 13 rfl (Q6 rfl) (fun _=>hR99) <|wy 14 rfl (Qp qor rfl) (fun _=>hR99) ?_
 obtain ⟨r106,hr105,hz⟩:=Qb hz
 refine w1 9 rfl (Z6 (vs:=[.string x102,.string x6]) (v := .tuple #[.string r106.1,.int .i64 r106.2]) cb83 (Z8 rfl rfl) hS (qq3 hS.agree hr105) ?_)
 intro w104 hS
 refine Yq hS hG98 fun hR107=>wy 10 rfl (Qe (.tuple #[.string r106.1,.int .i64 r106.2]) rfl) (fun _=>hR107) <|wy 11 rfl (Q7 (v := .string r106.1) rfl rfl) (fun _=>hR107) <|wy 12 rfl (Q7 (v := .int .i64 r106.2) rfl rfl) (fun _=>hR107) ?_
 obtain ⟨u108,hx109,hz⟩:=Qb hz
 obtain ⟨hx109a,hx109b⟩:=Qw hx109
 refine wy 15 rfl (Ze q55 rfl rfl hx109a hx109b) (fun _=>hR107) ?_
 obtain ⟨_,hx111,hz⟩:=Qb hz
 have hx111:=Ke hx111
 obtain ⟨x113,hx114,hz⟩:=Qb hz
 obtain ⟨a115,hx116,hz⟩:=Qb hz
 obtain ⟨d117,hd112,hz⟩:=Qb hz
 have hq119:=(Zo hx114)
 refine w1 16 rfl (Q8 2 1 hS rfl hcx1 rfl rfl (Vw hx111:rep M15 [Value.string r106.1] r106.1) rfl rfl (GCluster.u1 (rr hcx1) (vu (k:=1) rfl rfl (Yz (rr hcx1)) (Lf (vp (k:=1) rfl rfl (Yz (rr hcx1)) hx114) (Vw hx111:rep M15 [Value.string r106.1] r106.1)) hx116)) hd112 ?_)
 intro cs112 w110 hb112 ha112 hs112 hS
 have hp118:=(ha112 (by omega)).trans hpx1_6
 refine ⟨nB,?_⟩
 refine wy 17 rfl (Qj (.int .i64 r106.2) rfl) nB ?_
 refine wd (Qa ?_)
 refine Qh <|Qi <|Qc (Qe (.int .i64 r106.2) rfl) <|Qc (Yl rfl rfl) ?_
 refine Qf (Qa ?_)
 refine Qr rfl (fun hc120 => ?_) (fun hc120 => ?_)
 replace hz:=Qn hz hc120
 refine Qh <|Qi <|Q2 2 rfl ?_
 refine Qf (Qa ?_)
 cases hz
 exact Q4 (Qq (Yg rfl rfl ⟨_,M15,_,rfl,hE,(hS.sel (H':=[.box bx1 cs112 90,.stk ux1_6 9 1 xsx1_6]) [2,3] (by decide) rfl),cs112,ux1_6,xsx1_6,rfl,rfl,hb112,hkx1_6,hp118⟩))
 replace hz:=Qo hz hc120
 refine Qt (Qa ?_)
 refine Qh <|Yu [.box b17 cs17 34] [] Ya hS fun w121 hS hG122 hR123=>wy 0 rfl (Qe (.pointer (some ⟨bx1,0,none⟩)) hT16_0) (fun _=>hR123) <|wy 1 rfl (Qe (.int .i64 x4) hT16_1) (fun _=>hR123) ?_
 have ha124:=(rr hb17)
 refine Y8 2 rfl (Zf Vk hT16_9 (Yp 0 rfl) (Rep.len ha124)) hR123 <|wy 3 rfl (Q6 rfl) (fun _=>hR123) <|wy 4 rfl (Qp qqv rfl) (fun _=>hR123) ?_
 obtain ⟨u125,hx126,hz⟩:=Qb hz
 obtain ⟨hx126a,hx126b⟩:=Qw hx126
 refine wy 5 rfl (Ze q7b rfl rfl hx126a hx126b) (fun _=>hR123) ?_
 obtain ⟨x129,hx130,hz⟩:=Qb hz
 obtain ⟨a131,hx132,hz⟩:=Qb hz
 obtain ⟨d133,hd128,hz⟩:=Qb hz
 have hq135:=(Zo hx130)
 refine w1 6 rfl (Q8 2 201 hS rfl hb112 rfl rfl ha124 rfl rfl (K9 (rr hb112) (vu (k:=201) rfl rfl (Yy (rr hb112)) (Lf (vp (k:=201) rfl rfl (Yy (rr hb112)) hx130) ha124) hx132)) hd128 ?_)
 intro cs128 w127 hb128 ha128 hs128 hS
 have hp134:=(ha128 (by omega)).trans hp118
 refine Yq hS hG122 fun hR136 => ?_
 refine wd (Qa ?_)
 refine Qh <|Qi <|Qc (Qe (.pointer (some ⟨bx1,0,none⟩)) hT16_0) <|Qc (Qe (v20) hT16_10) ?_
 obtain ⟨r139,hr138,hz⟩:=Qb hz
 refine Qs (Zl (vs:=[.pointer (some ⟨bx1,0,none⟩),v20]) (L:=[.box bx1 cs128 90,.stk ux1_6 9 1 xsx1_6]) (R:=[.box b17 cs17 34,.box b8 cx5 118]) (rv:=(fun M' u L' => ∃ k0 u1 x1,u = .tuple #[]∧L'=[.box bx1 k0 90,.stk u1 9 1 x1]∧rep M' k0 r139.1∧skr M' u1 x1 r139.2∧sl k0 1993 1=[u1])) q9n (Z8 rfl rfl) hS (hS.sel [2,3,0,1] (by decide) rfl) (fun hS=>qls hS hb128 hkx1_6 hp134 hv20 hr138) ?_)
 rintro u138 M138 w137 L138 hx138 ⟨k0_138,u1_138,x1_138,rfl,hL138,f138_0,f138_1,f138_2⟩ hS
 replace hS:=hS _ hL138
 replace hE:=Qd hE hx138
 refine Qf (Qa ?_)
 refine Qh <|Qi <|Qc (Qj (.int .i64 0) rfl) ?_
 refine Qf (Qa ?_)
 cases hz
 exact Q4 (Yg rfl rfl ⟨_,M138,_,rfl,hE,(hS.sel (H':=[.box bx1 k0_138 90,.stk u1_138 9 1 x1_138]) [0,1] (by decide) rfl),k0_138,u1_138,x1_138,rfl,rfl,f138_0,f138_1,f138_2⟩)
def qju (fu:Nat) (d36:GFrame) (d49:GCluster) (l52:List ByteArray) (d60:GCase) (l61:List GFrame) (y63:Int):Option (GReply × GCluster × (List ByteArray)) :=
 (bif y63 != 0 then
 (some ({ code:=y63,n:=Zr.zd,values:=Zr.zd }:GReply)).bind fun d67 =>
 (some d67).bind fun d70 =>
 some (d70,d49,l52)
 else
 (inR d36.id 32).bind fun _ =>
 (qa7 d49.cases d36.id).bind fun x79 =>
 (qe2 d49.cases d36.id d60).bind fun a81 =>
 (some ({ d49 with cases:=a81 }:GCluster)).bind fun d83 =>
 (qkw fu d83 l52 l61).bind fun r89 =>
 (qmo fu r89.1 d36.id).bind fun r92 =>
 (some r92).bind fun d95 =>
 some (d95,r89.1,r89.2))
def qjv (fu:Nat) (d36:GFrame) (d47:GReply) (d49:GCluster) (l52:List ByteArray):Option (GReply × GCluster × (List ByteArray)) :=
 (inR d36.id 32).bind fun _ =>
 (qa7 d49.cases d36.id).bind fun x102 =>
 (qi3 fu x102 d36.id d36).bind fun r108 =>
 (some r108.1).bind fun d113 =>
 qju fu d36 d49 l52 d113 r108.2.1 r108.2.2
def qdz (fu:Nat) (d13:GReply) (x16:ByteArray) (d22:GCluster) (l25:List ByteArray) (d36:GFrame) (c124:Bool):Option (GReply × GCluster × (List ByteArray)) :=
 (bif c124 then
 (qo9 fu d22 l25 d36.node d36 x16).bind fun r130 =>
 (bif r130.1 != 0 then
 (some ({ code:=r130.1,n:=Zr.zd,values:=Zr.zd }:GReply)).bind fun d133 =>
 (some d133).bind fun d136 =>
 some (d136,r130.2.1,r130.2.2)
 else
 (some ({ code:=Zr.zd,n:=d36.id,values:=Zr.zd }:GReply)).bind fun d138 =>
 (some d138).bind fun d141 =>
 some (d141,r130.2.1,r130.2.2))
 else
 qjv fu d36 d13 d22 l25)
def qfu (fu:Nat) (x4:GAct) (d13:GReply) (x16:ByteArray) (d22:GCluster) (l25:List ByteArray):Option (GReply × GCluster × (List ByteArray)) :=
 (qmm fu x16).bind fun r31 =>
 (some r31.1).bind fun d36 =>
 (bif x4.kind==4 then
 (some ({ code:=Zr.zd,n:=d36.id,values:=Zr.zd }:GReply)).bind fun d39 =>
 (some d39).bind fun d42 =>
 some (d42,d22,l25)
 else
 (bif d36.kind==1 then
 qdz fu d13 x16 d22 l25 d36 true
 else
 qdz fu d13 x16 d22 l25 d36 (d36.kind==3)))
def qjw (fu:Nat) (x1:GCluster) (l3:List ByteArray) (x4:GAct) (d13:GReply):Option (GReply × GCluster × (List ByteArray)) :=
 (idx l3 x4.n).bind fun x16 =>
 (bif x4.kind != 3 then
 (q7d l3 x4.n (IntKind.wrap .i64 (x4.n+1))).bind fun l151 =>
 (some ({ x1 with net:=Hole.mk }:GCluster)).bind fun d155 =>
 qfu fu x4 d13 x16 d155 l151
 else
 qfu fu x4 d13 x16 x1 l3)
def qg9 (fu:Nat) (x1:GCluster) (l3:List ByteArray) (x4:GAct) (c161:Bool):Option (GReply × GCluster × (List ByteArray)) :=
 (bif c161 then
 (some ({ code:=4,n:=Zr.zd,values:=Zr.zd }:GReply)).bind fun d165 =>
 (some d165).bind fun d168 =>
 some (d168,x1,l3)
 else
 qjw fu x1 l3 x4 (Zr.zd:GReply))
def qlv (fu:Nat) (x1:GCluster) (l3:List ByteArray) (x4:GAct):Option (GReply × GCluster × (List ByteArray)) :=
 (bif decide (x4.n<0) then
 qg9 fu x1 l3 x4 true
 else
 qg9 fu x1 l3 x4 (decide (x4.n≥(l3.length:Int))))
theorem qy9 {M:Mm} {w:World} {bx1:Nat} {cx1:List Value} {ux1_6:Value} {xsx1_6:List Value} {cx4:List Value} {x1:GCluster} {l3:List ByteArray} {x4:GAct} {fu:Nat} {r:GReply × GCluster × (List ByteArray)} (hS:St w (qai [.box bx1 cx1 90,.stk ux1_6 9 1 xsx1_6]) M [.box bx1 cx1 90,.stk ux1_6 9 1 xsx1_6] w) (hcx1:rep M cx1 x1) (hkx1_6:skr M ux1_6 xsx1_6 l3) (hpx1_6:sl cx1 1993 1=[ux1_6]) (hcx4:rep M cx4 x4) (hz:qlv fu x1 l3 x4=some r) :
    Calls Try.prog 48 #[.pointer (some ⟨bx1,0,none⟩),.agg cx4.toArray] w (qcv M w [.box bx1 cx1 90,.stk ux1_6 9 1 xsx1_6] (fun M' u L' => ∃ c0 k0 u1 x1,u = .agg c0.toArray∧L'=[.box bx1 k0 90,.stk u1 9 1 x1]∧rep M' c0 r.1∧rep M' k0 r.2.1∧skr M' u1 x1 r.2.2∧sl k0 1993 1=[u1])):=by
 refine Zh Try.func48 rfl 115 rfl rfl (by kernel_rfl) fun T hT => ?_
 have hT_0:T 0 = .pointer (some ⟨bx1,0,none⟩):=hT 0
 have hT_1:T 1 = .agg cx4.toArray:=hT 1
 clear hT
 have hE:=Qg w.heap.size (qai [.box bx1 cx1 90,.stk ux1_6 9 1 xsx1_6]) M
 rw [qlv] at hz
 refine Qh <|Qi ?_
 refine Qs (Yo (v := .agg cx4.toArray) (cs:=cx4) hT_1 rfl hS ?_)
 intro b6 w5 hb6 hS
 refine Qs (Zg q3n hS ?_)
 intro b8 w7 hb8 hS
 have zb8:rep M (Zr.zc GReply) (Zr.zd:GReply):=Zr.zr
 refine Qf (Qa ?_)
 refine Q0 (fun T' w' => ∃ M10 cs12 d13,Mm.ext w.heap.size (qai [.box bx1 cx1 90,.stk ux1_6 9 1 xsx1_6]) M M10∧St w (qai [.box bx1 cx1 90,.stk ux1_6 9 1 xsx1_6]) M10 [.box b8 cs12 40,.box b6 cx4 43,.box bx1 cx1 90,.stk ux1_6 9 1 xsx1_6] w'∧rep M10 cs12 d13∧T' 0 = .pointer (some ⟨bx1,0,none⟩)∧T' 3 = .pointer (some ⟨b6,0,none⟩)∧T' 4 = .pointer (some ⟨b8,0,none⟩)∧qjw fu x1 l3 x4 d13=some r) ?_ ?_
 have hF157:=Qg w.heap.size (qai [.box bx1 cx1 90,.stk ux1_6 9 1 xsx1_6]) M
 refine Q0 (fun T' w' => ∃ M159 c161,Mm.ext w.heap.size (qai [.box bx1 cx1 90,.stk ux1_6 9 1 xsx1_6]) M M159∧St w (qai [.box bx1 cx1 90,.stk ux1_6 9 1 xsx1_6]) M159 [.box b8 (Zr.zc GReply) 40,.box b6 cx4 43,.box bx1 cx1 90,.stk ux1_6 9 1 xsx1_6] w'∧T' 0 = .pointer (some ⟨bx1,0,none⟩)∧T' 3 = .pointer (some ⟨b6,0,none⟩)∧T' 4 = .pointer (some ⟨b8,0,none⟩)∧T' 24 = .bool c161∧qg9 fu x1 l3 x4 c161=some r) ?_ ?_
 have hF169:=Qg w.heap.size (qai [.box bx1 cx1 90,.stk ux1_6 9 1 xsx1_6]) M
 refine Yu [.box b6 cx4 43,.box bx1 cx1 90] [] Ya hS fun w170 hS hG171 hR172=>wy 0 rfl (Qp Ko rfl) (fun _=>hR172) <|Y8 1 rfl (Qm (.int .i64 x4.n) Yb rfl (Yp 0 rfl) (V0 (rr hcx4))) hR172 <|wy 2 rfl (Zv rfl rfl) (fun _=>hR172) <|wy 3 rfl (Qe (.bool (decide (x4.n<0))) rfl) (fun _=>hR172) ?_
 rcases ic hz with ⟨hc173,hz⟩ | ⟨hc173,hz⟩<;>rw [hc173]
 refine Yj 4 (j:=3) rfl rfl rfl rfl (fun _=>hR172) <|Yj 5 (j:=3) rfl rfl rfl rfl (fun _=>hR172) <|Yj 6 (j:=3) rfl rfl rfl rfl (fun _=>hR172) <|Yj 7 (j:=3) rfl rfl rfl rfl (fun _=>hR172) <|Yj 8 (j:=3) rfl rfl rfl rfl (fun _=>hR172) <|Yj 9 (j:=3) rfl rfl rfl rfl (fun _=>hR172) <|Yj 10 (j:=3) rfl rfl rfl rfl (fun _=>hR172) <|Yj 11 (j:=3) rfl rfl rfl rfl (fun _=>hR172) <|wy 12 rfl (Zy (.bool true) rfl rfl) (fun _=>hR172) ?_
 refine wd (Qa ?_)
 exact ⟨M,true,hF169,hS,hT_0,rfl,rfl,rfl,hz⟩
 refine V4 4 rfl rfl rfl (Qp Ko rfl) (fun _=>hR172) <|K6 5 rfl rfl rfl (Qm (.int .i64 x4.n) Yb rfl (Yp 0 rfl) (V0 (rr hcx4))) hR172 <|V4 6 rfl rfl rfl (Qe (.pointer (some ⟨bx1,0,none⟩)) hT_0) (fun _=>hR172) <|V4 7 rfl rfl rfl (Q6 rfl) (fun _=>hR172) <|V4 8 rfl rfl rfl (Qp Jp rfl) (fun _=>hR172) <|K6 9 rfl rfl rfl (Qm ux1_6 q7a rfl (Yp 1 rfl) hpx1_6) hR172 ?_
 obtain ⟨a174,c174,hv174,_⟩:=Vj hkx1_6
 refine V4 10 rfl rfl rfl (Zj Yn (Vv hv174 rfl)) (fun _=>hR172) <|V4 11 rfl rfl rfl (Vd rfl rfl) (fun _=>hR172) <|wy 12 rfl (Zi (.bool (decide (x4.n≥(l3.length:Int)))) rfl rfl) (fun _=>hR172) ?_
 refine wd (Qa ?_)
 exact ⟨M,(decide (x4.n≥(l3.length:Int))),hF169,hS,hT_0,rfl,rfl,rfl,hz⟩
 rintro T160 w158 ⟨M159,c161,hx162,hS,hT160_0,hT160_3,hT160_4,hT160_24,hz⟩
 replace hcx1:=Rep.mono hx162.1 hcx1
 replace hkx1_6:=Zn hx162.1 hkx1_6
 replace zb8:=Rep.mono hx162.1 zb8
 replace hE:=Qd hE hx162
 replace hF157:=Qd hF157 hx162
 rw [qg9] at hz
 refine Qr hT160_24 (fun hc163 => ?_) (fun hc163 => ?_)
 replace hz:=Qn hz hc163
 refine Qh <|Qi ?_
 have k164_0:=Vy (Zr.zr:rep M159 (Zr.zc GReply) (Zr.zd:GReply)) (ri 4:rep M159 _ _)
 obtain ⟨d165,hd164,hz⟩:=Qb hz
 obtain ⟨cs164,hf164,ha164⟩ : ∃ cs,qbj (([(0,1),(1,1),(2,1)]:List (Nat × Nat))[·]?) (Zr.zc GReply) [(0,.int .i64 4)]=some cs∧rep M159 cs d165:=⟨_,(Q9 (Zr.zr:rep M159 (Zr.zc GReply) (Zr.zd:GReply)) rfl rfl (Rep.len (ri 4:rep M159 _ _)) (by decide) Z2),Z3 (x:=({ code:=4,n:=Zr.zd,values:=Zr.zd }:GReply)) k164_0 hd164⟩
 refine Qc (Zt [(0,.int .i64 4)] qy1 (Ym rfl Vb) hf164) ?_
 obtain ⟨d168,hd167,hz⟩:=Qb hz
 refine Qs (Q8 0 3 hS rfl zb8 hT160_4 rfl ha164 rfl rfl (Lf (rr zb8) ha164) hd167 ?_)
 intro cs167 w166 hb167 ha167 hs167 hS
 refine Qf (Qa ?_)
 cases hz
 exact Q4 (Qq (Jq (j:=0) rfl hT160_4 (by rw [Rep.len hb167];exact Kn) hS rfl ⟨_,M159,_,rfl,hE,(hS.sel (H':=[.box bx1 cx1 90,.stk ux1_6 9 1 xsx1_6]) [2,3] (by decide) rfl),cs167,cx1,ux1_6,xsx1_6,rfl,rfl,hb167,hcx1,hkx1_6,hpx1_6⟩))
 replace hz:=Qo hz hc163
 refine Qt (Qa ?_)
 exact ⟨M159,(Zr.zc GReply),(Zr.zd:GReply),hF157,hS,zb8,hT160_0,hT160_3,hT160_4,hz⟩
 rintro T11 w9 ⟨M10,cs12,d13,hx14,hS,hb12,hT11_0,hT11_3,hT11_4,hz⟩
 replace hcx1:=Rep.mono hx14.1 hcx1
 replace hkx1_6:=Zn hx14.1 hkx1_6
 replace hcx4:=Rep.mono hx14.1 hcx4
 replace hE:=Qd hE hx14
 rw [qjw] at hz
 refine Qh <|qr0 Ya (by kernel_rfl) hS <|Yv (Qe (.pointer (some ⟨bx1,0,none⟩)) hT11_0) <|Yv (Q6 rfl) <|Yv (Qp Jp rfl) <|Yv (Qm ux1_6 q7a rfl (q67 (j:=2) rfl) hpx1_6) <|Yv (Qp Ko hT11_3) <|Yv (Qm (.int .i64 x4.n) Yb rfl (q67 (j:=1) rfl) (V0 (rr hcx4))) ?_
 obtain ⟨x16,hx15,hz⟩:=Qb hz
 obtain ⟨b15,o15,c15,hv15,hi15,hj15,hM15,hr15⟩:=qtm (hS.skv (j:=3) rfl hkx1_6) hx15
 replace hr15:rep _ (sl xsx1_6 (o15+Int.toNat x4.n*1) 1) x16:=hr15
 refine Yv (Ys il72 rfl hv15 rfl hi15 hj15) <|Yv (Qm (.string x16) ts9 rfl (bvKS (j:=3) rfl hM15) hr15.1) <|Yv (Qj (.string x16) rfl) <|qxl ?_
 intro w17 hS
 refine (Qa ?_)
 refine Q0 (fun T' w' => ∃ M19 cs21 d22 v23 xs24 l25,Mm.ext w.heap.size (qai [.box bx1 cx1 90,.stk ux1_6 9 1 xsx1_6]) M10 M19∧St w (qai [.box bx1 cx1 90,.stk ux1_6 9 1 xsx1_6]) M19 [.box b8 cs12 40,.box b6 cx4 43,.box bx1 cs21 90,.stk v23 9 1 xs24] w'∧rep M19 cs21 d22∧skr M19 v23 xs24 l25∧sl cs21 (0+1993) 1=[v23]∧T' 0 = .pointer (some ⟨bx1,0,none⟩)∧T' 3 = .pointer (some ⟨b6,0,none⟩)∧T' 4 = .pointer (some ⟨b8,0,none⟩)∧T' 5 = .string x16∧qfu fu x4 d13 x16 d22 l25=some r) ?_ ?_
 have hF144:=Qg w.heap.size (qai [.box bx1 cx1 90,.stk ux1_6 9 1 xsx1_6]) M10
 refine Qh <|Qi <|Qc (Qp qop hT11_3) <|Qc (Qm (.int .i64 x4.kind) Yb rfl (hS.bvB 1 rfl) (Jg (rr hcx4))) <|Qc (Yl rfl rfl) ?_
 refine Qf (Qa ?_)
 refine Qr rfl (fun hc145 => ?_) (fun hc145 => ?_)
 replace hz:=Qn hz hc145
 refine Yu [.box b6 cx4 43,.box bx1 cx1 90] [13] Ya hS fun w146 hS hG147 hR148=>wy 0 rfl (Qe (.pointer (some ⟨bx1,0,none⟩)) hT11_0) (fun _=>hR148) <|wy 1 rfl (Qe (.pointer (some ⟨bx1,0,none⟩)) hT11_0) (fun _=>hR148) <|wy 2 rfl (Q6 rfl) (fun _=>hR148) <|wy 3 rfl (Qp Jp rfl) (fun _=>hR148) <|Y8 4 rfl (Qm ux1_6 q7a rfl (Yp 1 rfl) hpx1_6) hR148 <|wy 5 rfl (Qp Ko hT11_3) (fun _=>hR148) <|Y8 6 rfl (Qm (.int .i64 x4.n) Yb rfl (Yp 0 rfl) (V0 (rr hcx4))) hR148 <|wy 7 rfl (Qp Ko hT11_3) (fun _=>hR148) <|Y8 8 rfl (Qm (.int .i64 x4.n) Yb rfl (Yp 0 rfl) (V0 (rr hcx4))) hR148 <|wy 9 rfl (Zz rfl rfl) (fun _=>hR148) ?_
 obtain ⟨l151,hr150,hz⟩:=Qb hz
 refine w1 10 rfl (q85 (j:=3) cb66 (Jj rfl rfl rfl) hS rfl hkx1_6 hr150 ?_)
 intro v150 xs150 w149 hk150 hS
 refine Yq hS hG147 fun hR152=>wy 11 rfl (Q6 rfl) (fun _=>hR152) <|wy 12 rfl (Qp Jp rfl) (fun _=>hR152) ?_
 obtain ⟨d155,hd154,hz⟩:=Qb hz
 refine w1 13 rfl (Q8 2 1 hS rfl hcx1 rfl rfl (Ki hk150) (qk7 hk150) rfl (GCluster.u6 (rr hcx1) (Lf (GCluster.p6 (rr hcx1)) (Ki hk150))) hd154 ?_)
 intro cs154 w153 hb154 ha154 hs154 hS
 have hp156:=hs154
 refine ⟨nB,?_⟩
 refine wd (Qa ?_)
 exact ⟨M10,cs154,d155,v150,xs150,l151,hF144,hS,hb154,hk150,hp156,hT11_0,hT11_3,hT11_4,rfl,hz⟩
 replace hz:=Qo hz hc145
 refine Qt (Qa ?_)
 exact ⟨M10,cx1,x1,ux1_6,xsx1_6,l3,hF144,hS,hcx1,hkx1_6,hpx1_6,hT11_0,hT11_3,hT11_4,rfl,hz⟩
 rintro T20 w18 ⟨M19,cs21,d22,v23,xs24,l25,hx28,hS,hb21,hk26,hp27,hT20_0,hT20_3,hT20_4,hT20_5,hz⟩
 rw [qfu] at hz
 refine Qh <|Qi <|Qc (Qe (.string x16) hT20_5) ?_
 obtain ⟨r31,hr30,hz⟩:=Qb hz
 refine Qs (Y0 (vs:=[.string x16]) (rv:=(fun M' u => ∃ c0,u = .tuple #[.agg c0.toArray,.int .i64 r31.2]∧rep M' c0 r31.1)) cb67 (Zu rfl) hS (qtz hS.agree hr30) ?_)
 intro u30 M30 w29 hx30 hu30 hS
 obtain ⟨c30_0,hq30,f30_0⟩:=hu30
 subst hq30
 replace hcx4:=Rep.mono (hx28.1.trans hx30.1) hcx4
 replace hb12:=Rep.mono (hx28.1.trans hx30.1) hb12
 replace hb21:=Rep.mono hx30.1 hb21
 replace hk26:=Zn hx30.1 hk26
 replace hE:=Qd hE (hx28.trans hx30)
 refine Qc (Qe (.tuple #[.agg c30_0.toArray,.int .i64 r31.2]) rfl) <|Qc (Q7 (v := .agg c30_0.toArray) rfl rfl) <|Qc (Q7 (v := .int .i64 r31.2) rfl rfl) ?_
 refine Qs (Zg qy2 hS ?_)
 intro b33 w32 hb33 hS
 have zb33:rep M30 (Zr.zc GFrame) (Zr.zd:GFrame):=Zr.zr
 obtain ⟨d36,hd35,hz⟩:=Qb hz
 refine Qs (Q8 0 7 hS rfl zb33 rfl rfl f30_0 rfl rfl (Lf (rr zb33) f30_0) hd35 ?_)
 intro cs35 w34 hb35 ha35 hs35 hS
 refine Qc (Qj (.int .i64 r31.2) rfl) ?_
 refine Qf (Qa ?_)
 refine Qh <|Qh <|Qi <|Qc (Qp qop hT20_3) <|Qc (Qm (.int .i64 x4.kind) Yb rfl (hS.bvB 2 rfl) (Jg (rr hcx4))) <|Qc (Yd rfl rfl) ?_
 refine Qf (Qa ?_)
 refine Qr rfl (fun hc37 => ?_) (fun hc37 => ?_)
 replace hz:=Qn hz hc37
 refine Qh <|Qi <|Qc (Qp Yk rfl) <|Qc (Qm (.int .i64 d36.id) Yb rfl (hS.bvB 0 rfl) (Z9 (rr hb35))) ?_
 have k38_0:=GReply.w1 (Zr.zr:rep M30 (Zr.zc GReply) (Zr.zd:GReply)) (ri d36.id:rep M30 _ _)
 obtain ⟨d39,hd38,hz⟩:=Qb hz
 obtain ⟨cs38,hf38,ha38⟩ : ∃ cs,qbj (([(0,1),(1,1),(2,1)]:List (Nat × Nat))[·]?) (Zr.zc GReply) [(1,.int .i64 d36.id)]=some cs∧rep M30 cs d39:=⟨_,(Q9 (Zr.zr:rep M30 (Zr.zc GReply) (Zr.zd:GReply)) rfl rfl (Rep.len (ri d36.id:rep M30 _ _)) (by decide) Z2),Z3 (x:=({ code:=Zr.zd,n:=d36.id,values:=Zr.zd }:GReply)) k38_0 hd38⟩
 refine Qc (Zt [(1,.int .i64 d36.id)] qy1 (Ym rfl Vb) hf38) ?_
 obtain ⟨d42,hd41,hz⟩:=Qb hz
 refine Qs (Q8 1 3 hS rfl hb12 hT20_4 rfl ha38 rfl rfl (Lf (rr hb12) ha38) hd41 ?_)
 intro cs41 w40 hb41 ha41 hs41 hS
 refine Qf (Qa ?_)
 cases hz
 exact Q4 (Qq (Jq (j:=1) rfl hT20_4 (by rw [Rep.len hb41];exact Kn) hS rfl ⟨_,M30,_,rfl,hE,(hS.sel (H':=[.box bx1 cs21 90,.stk v23 9 1 xs24]) [3,4] (by decide) rfl),cs41,cs21,v23,xs24,rfl,rfl,hb41,hb21,hk26,hp27⟩))
 replace hz:=Qo hz hc37
 refine Qt (Qa ?_)
 refine Q0 (fun T' w' => ∃ M44 cs46 d47 cs48 d49 v50 xs51 l52,Mm.ext w.heap.size (qai [.box bx1 cx1 90,.stk ux1_6 9 1 xsx1_6]) M30 M44∧St w (qai [.box bx1 cx1 90,.stk ux1_6 9 1 xsx1_6]) M44 [.box b33 cs35 118,.box b8 cs46 40,.box b6 cx4 43,.box bx1 cs48 90,.stk v50 9 1 xs51] w'∧rep M44 cs46 d47∧rep M44 cs48 d49∧skr M44 v50 xs51 l52∧sl cs48 (0+1993) 1=[v50]∧T' 0 = .pointer (some ⟨bx1,0,none⟩)∧T' 4 = .pointer (some ⟨b8,0,none⟩)∧T' 6 = .pointer (some ⟨b33,0,none⟩)∧qjv fu d36 d47 d49 l52=some r) ?_ ?_
 have hF120:=Qg w.heap.size (qai [.box bx1 cx1 90,.stk ux1_6 9 1 xsx1_6]) M30
 refine Q0 (fun T' w' => ∃ M122 c124,Mm.ext w.heap.size (qai [.box bx1 cx1 90,.stk ux1_6 9 1 xsx1_6]) M30 M122∧St w (qai [.box bx1 cx1 90,.stk ux1_6 9 1 xsx1_6]) M122 [.box b33 cs35 118,.box b8 cs12 40,.box b6 cx4 43,.box bx1 cs21 90,.stk v23 9 1 xs24] w'∧T' 0 = .pointer (some ⟨bx1,0,none⟩)∧T' 4 = .pointer (some ⟨b8,0,none⟩)∧T' 5 = .string x16∧T' 6 = .pointer (some ⟨b33,0,none⟩)∧T' 68 = .bool c124∧qdz fu d13 x16 d22 l25 d36 c124=some r) ?_ ?_
 have hF142:=Qg w.heap.size (qai [.box bx1 cx1 90,.stk ux1_6 9 1 xsx1_6]) M30
 refine Qi <|Qc (Qp Vu rfl) <|Qc (Qm (.int .i64 d36.kind) Yb rfl (hS.bvB 0 rfl) (Y1 (rr hb35))) <|Qc (Yd rfl rfl) <|Qc (Qe (.bool (d36.kind==1)) rfl) ?_
 rcases ic hz with ⟨hc143,hz⟩ | ⟨hc143,hz⟩<;>rw [hc143]
 refine Q2 4 rfl ?_
 refine Qf (Qa ?_)
 exact ⟨M30,true,hF142,hS,hT20_0,hT20_4,hT20_5,rfl,rfl,hz⟩
 refine Qk rfl rfl (Qp Vu rfl) <|Qk rfl rfl (Qm (.int .i64 d36.kind) Yb rfl (hS.bvB 0 rfl) (Y1 (rr hb35))) <|Qk rfl rfl (Yd rfl rfl) <|Qc (Zi (.bool (d36.kind==3)) rfl rfl) ?_
 refine Qf (Qa ?_)
 exact ⟨M30,(d36.kind==3),hF142,hS,hT20_0,hT20_4,hT20_5,rfl,rfl,hz⟩
 rintro T123 w121 ⟨M122,c124,hx125,hS,hT123_0,hT123_4,hT123_5,hT123_6,hT123_68,hz⟩
 replace hb12:=Rep.mono hx125.1 hb12
 replace hb21:=Rep.mono hx125.1 hb21
 replace hk26:=Zn hx125.1 hk26
 replace hb35:=Rep.mono hx125.1 hb35
 replace hE:=Qd hE hx125
 replace hF120:=Qd hF120 hx125
 rw [qdz] at hz
 refine Qr hT123_68 (fun hc126 => ?_) (fun hc126 => ?_)
 replace hz:=Qn hz hc126
 refine Qh <|Qh <|Qi <|Qc (Qe (.pointer (some ⟨bx1,0,none⟩)) hT123_0) <|Qc (Qp V8 hT123_6) <|Qc (Qm (.int .i64 d36.node) Yb rfl (hS.bvB 0 rfl) (Vg (rr hb35))) ?_
 have ha127:=(rr hb35)
 refine Qc (Zf K1 hT123_6 (hS.bvB 0 rfl) (Rep.len ha127)) <|Qc (Qe (.string x16) hT123_5) ?_
 obtain ⟨r130,hr129,hz⟩:=Qb hz
 refine Qs (Zl (vs:=[.pointer (some ⟨bx1,0,none⟩),.int .i64 d36.node,.agg (sl cs35 (0) 7).toArray,.string x16]) (L:=[.box bx1 cs21 90,.stk v23 9 1 xs24]) (R:=[.box b33 cs35 118,.box b8 cs12 40,.box b6 cx4 43]) (rv:=(fun M' u L' => ∃ k0 u1 x1,u = .int .i64 r130.1∧L'=[.box bx1 k0 90,.stk u1 9 1 x1]∧rep M' k0 r130.2.1∧skr M' u1 x1 r130.2.2∧sl k0 1993 1=[u1])) cb68 (q5t rfl rfl rfl rfl) hS (hS.sel [3,4,0,1,2] (by decide) rfl) (fun hS=>q1v hS hb21 hk26 hp27 ha127 hr129) ?_)
 rintro u129 M129 w128 L129 hx129 ⟨k0_129,u1_129,x1_129,rfl,hL129,f129_0,f129_1,f129_2⟩ hS
 replace hS:=hS _ hL129
 replace hb12:=Rep.mono hx129.1 hb12
 replace hb35:=Rep.mono hx129.1 hb35
 replace hE:=Qd hE hx129
 refine Qc (Qj (.int .i64 r130.1) rfl) ?_
 refine Qf (Qa ?_)
 refine Qh <|Qi <|Qc (Qe (.int .i64 r130.1) rfl) <|Qc (Yl rfl rfl) ?_
 refine Qf (Qa ?_)
 refine Qr rfl (fun hc131 => ?_) (fun hc131 => ?_)
 replace hz:=Qn hz hc131
 refine Qh <|Qi <|Qc (Qe (.int .i64 r130.1) rfl) ?_
 have k132_0:=Vy (Zr.zr:rep M129 (Zr.zc GReply) (Zr.zd:GReply)) (ri r130.1:rep M129 _ _)
 obtain ⟨d133,hd132,hz⟩:=Qb hz
 obtain ⟨cs132,hf132,ha132⟩ : ∃ cs,qbj (([(0,1),(1,1),(2,1)]:List (Nat × Nat))[·]?) (Zr.zc GReply) [(0,.int .i64 r130.1)]=some cs∧rep M129 cs d133:=⟨_,(Q9 (Zr.zr:rep M129 (Zr.zc GReply) (Zr.zd:GReply)) rfl rfl (Rep.len (ri r130.1:rep M129 _ _)) (by decide) Z2),Z3 (x:=({ code:=r130.1,n:=Zr.zd,values:=Zr.zd }:GReply)) k132_0 hd132⟩
 refine Qc (Zt [(0,.int .i64 r130.1)] qy1 (Ym rfl Vb) hf132) ?_
 obtain ⟨d136,hd135,hz⟩:=Qb hz
 refine Qs (Q8 3 3 hS rfl hb12 hT123_4 rfl ha132 rfl rfl (Lf (rr hb12) ha132) hd135 ?_)
 intro cs135 w134 hb135 ha135 hs135 hS
 refine Qf (Qa ?_)
 cases hz
 exact Q4 (Qq (Qq (Jq (j:=3) rfl hT123_4 (by rw [Rep.len hb135];exact Kn) hS rfl ⟨_,M129,_,rfl,hE,(hS.sel (H':=[.box bx1 k0_129 90,.stk u1_129 9 1 x1_129]) [0,1] (by decide) rfl),cs135,k0_129,u1_129,x1_129,rfl,rfl,hb135,f129_0,f129_1,f129_2⟩)))
 replace hz:=Qo hz hc131
 refine Qt (Qa ?_)
 refine Qh <|Qi <|Qc (Qp Yk hT123_6) <|Qc (Qm (.int .i64 d36.id) Yb rfl (hS.bvB 2 rfl) (Z9 (rr hb35))) ?_
 have k137_0:=GReply.w1 (Zr.zr:rep M129 (Zr.zc GReply) (Zr.zd:GReply)) (ri d36.id:rep M129 _ _)
 obtain ⟨d138,hd137,hz⟩:=Qb hz
 obtain ⟨cs137,hf137,ha137⟩ : ∃ cs,qbj (([(0,1),(1,1),(2,1)]:List (Nat × Nat))[·]?) (Zr.zc GReply) [(1,.int .i64 d36.id)]=some cs∧rep M129 cs d138:=⟨_,(Q9 (Zr.zr:rep M129 (Zr.zc GReply) (Zr.zd:GReply)) rfl rfl (Rep.len (ri d36.id:rep M129 _ _)) (by decide) Z2),Z3 (x:=({ code:=Zr.zd,n:=d36.id,values:=Zr.zd }:GReply)) k137_0 hd137⟩
 refine Qc (Zt [(1,.int .i64 d36.id)] qy1 (Ym rfl Vb) hf137) ?_
 obtain ⟨d141,hd140,hz⟩:=Qb hz
 refine Qs (Q8 3 3 hS rfl hb12 hT123_4 rfl ha137 rfl rfl (Lf (rr hb12) ha137) hd140 ?_)
 intro cs140 w139 hb140 ha140 hs140 hS
 refine Qf (Qa ?_)
 cases hz
 exact Q4 (Qq (Jq (j:=3) rfl hT123_4 (by rw [Rep.len hb140];exact Kn) hS rfl ⟨_,M129,_,rfl,hE,(hS.sel (H':=[.box bx1 k0_129 90,.stk u1_129 9 1 x1_129]) [0,1] (by decide) rfl),cs140,k0_129,u1_129,x1_129,rfl,rfl,hb140,f129_0,f129_1,f129_2⟩))
 replace hz:=Qo hz hc126
 refine Qt (Qa ?_)
 exact ⟨M122,cs12,d13,cs21,d22,v23,xs24,l25,hF120,hS,hb12,hb21,hk26,hp27,hT123_0,hT123_4,hT123_6,hz⟩
 rintro T45 w43 ⟨M44,cs46,d47,cs48,d49,v50,xs51,l52,hx55,hS,hb46,hb48,hk53,hp54,hT45_0,hT45_4,hT45_6,hz⟩
 replace hb35:=Rep.mono hx55.1 hb35
 replace hE:=Qd hE hx55
 rw [qjv] at hz
 refine Q0 (fun T' w' => ∃ M57 b59 cs59 d60 v62 l61 y63,Mm.ext w.heap.size (qai [.box bx1 cx1 90,.stk ux1_6 9 1 xsx1_6]) M44 M57∧St w (qai [.box bx1 cx1 90,.stk ux1_6 9 1 xsx1_6]) M57 [.box b59 cs59 49,.box b33 cs35 118,.box b8 cs46 40,.box b6 cx4 43,.box bx1 cs48 90,.stk v50 9 1 xs51] w'∧rep M57 cs59 d60∧w.heap.size≤b59∧repL M57 v62 l61∧T' 9 = .pointer (some ⟨b59,0,none⟩)∧T' 0 = .pointer (some ⟨bx1,0,none⟩)∧T' 4 = .pointer (some ⟨b8,0,none⟩)∧T' 6 = .pointer (some ⟨b33,0,none⟩)∧T' 10=v62∧T' 11 = .int .i64 y63∧qju fu d36 d49 l52 d60 l61 y63=some r) ?_ ?_
 have hF96:=Qg w.heap.size (qai [.box bx1 cx1 90,.stk ux1_6 9 1 xsx1_6]) M44
 refine Yu [.box b33 cs35 118,.box bx1 cs48 90] [] Ya hS fun w97 hS hG98 hR99=>wy 0 rfl (Qe (.pointer (some ⟨bx1,0,none⟩)) hT45_0) (fun _=>hR99) <|wy 1 rfl (Qp Yk hT45_6) (fun _=>hR99) <|Y8 2 rfl (Qm (.int .i64 d36.id) Yb rfl (Yp 0 rfl) (Z9 (rr hb35))) hR99 <|wy 3 rfl (Q6 rfl) (fun _=>hR99) <|wy 4 rfl (Qp qqx rfl) (fun _=>hR99) ?_
 obtain ⟨u100,hx101,hz⟩:=Qb hz
 obtain ⟨hx101a,hx101b⟩:=Qw hx101
 refine wy 5 rfl (Ze q7c rfl rfl hx101a hx101b) (fun _=>hR99) ?_
 obtain ⟨x102,hx103,hz⟩:=Qb hz
 have ha104:=(vp (k:=24) rfl rfl (Ve (rr hb48)) hx103)
 refine Y8 6 rfl (Zf Vc rfl (Yp 1 rfl) (Rep.len ha104)) hR99 <|wy 7 rfl (Qp Yk hT45_6) (fun _=>hR99) <|Y8 8 rfl (Qm (.int .i64 d36.id) Yb rfl (Yp 0 rfl) (Z9 (rr hb35))) hR99 ?_
 have ha105:=(rr hb35)
 refine Y8 9 rfl (Zf K1 hT45_6 (Yp 0 rfl) (Rep.len ha105)) hR99 ?_
 obtain ⟨r108,hr107,hz⟩:=Qb hz
 obtain ⟨d113,hd112,hz⟩:=Qb hz
 refine qtl (i:=10) (j:=15) (by kernel_rfl) rfl rfl (Y0 (vs:=[.agg (sl cs48 (0+1224+Int.toNat d36.id*24) 24).toArray,.int .i64 d36.id,.agg (sl cs35 (0) 7).toArray]) (rv:=(fun M' u => ∃ c0 v1,u = .tuple #[.agg c0.toArray,v1,.int .i64 r108.2.2]∧rep M' c0 r108.1∧repL M' v1 r108.2.1)) cb69 (Jj rfl rfl rfl) hS (qo5 hS.agree ha104 ha105 hr107) ?_) (Zg q32 hS ?_)
 intro u107 M107 w106 hx107 hu107 hS
 obtain ⟨c107_0,v107_1,hq107,f107_0,f107_1⟩:=hu107
 subst hq107
 replace hF96:=Qd hF96 hx107
 replace hG98:=Qd hG98 hx107
 refine Yq hS hG98 fun hR114=>wy 11 rfl (Qe (.tuple #[.agg c107_0.toArray,v107_1,.int .i64 r108.2.2]) rfl) (fun _=>hR114) <|wy 12 rfl (Q7 (v := .agg c107_0.toArray) rfl rfl) (fun _=>hR114) <|wy 13 rfl (Q7 (v:=v107_1) rfl rfl) (fun _=>hR114) <|wy 14 rfl (Q7 (v := .int .i64 r108.2.2) rfl rfl) (fun _=>hR114) ?_
 refine w1 15 rfl (Zg q32 hS ?_)
 intro b110 w109 hb110 hS
 have zb110:rep M107 (Zr.zc GCase) (Zr.zd:GCase):=Zr.zr
 refine Yq hS hG98 fun hR115 => ?_
 refine w1 16 rfl (Q8 0 24 hS rfl zb110 rfl rfl f107_0 rfl rfl (Lf (rr zb110) f107_0) hd112 ?_)
 intro cs112 w111 hb112 ha112 hs112 hS
 refine Yq hS hG98 fun hR116=>wy 17 rfl (Qj (v107_1) rfl) (fun _=>hR116) <|wy 18 rfl (Qj (.int .i64 r108.2.2) rfl) (fun _=>hR116) ?_
 refine wd (Qa ?_)
 exact ⟨M107,b110,cs112,d113,v107_1,r108.2.1,r108.2.2,hF96,hS,hb112,hb110,f107_1,rfl,hT45_0,hT45_4,hT45_6,rfl,rfl,hz⟩
 intro b110 w109 hb110 hS
 have zb110:rep M44 (Zr.zc GCase) (Zr.zd:GCase):=Zr.zr
 refine Yq hS hG98 fun hR117 => ?_
 refine w1 10 rfl (Y0 (vs:=[.agg (sl cs48 (0+1224+Int.toNat d36.id*24) 24).toArray,.int .i64 d36.id,.agg (sl cs35 (0) 7).toArray]) (rv:=(fun M' u => ∃ c0 v1,u = .tuple #[.agg c0.toArray,v1,.int .i64 r108.2.2]∧rep M' c0 r108.1∧repL M' v1 r108.2.1)) cb69 (Jj rfl rfl rfl) hS (qo5 hS.agree ha104 ha105 hr107) ?_)
 intro u107 M107 w106 hx107 hu107 hS
 obtain ⟨c107_0,v107_1,hq107,f107_0,f107_1⟩:=hu107
 subst hq107
 replace zb110:=Rep.mono hx107.1 zb110
 replace hF96:=Qd hF96 hx107
 replace hG98:=Qd hG98 hx107
 refine Yq hS hG98 fun hR118=>wy 11 rfl (Qe (.tuple #[.agg c107_0.toArray,v107_1,.int .i64 r108.2.2]) rfl) (fun _=>hR118) <|wy 12 rfl (Q7 (v := .agg c107_0.toArray) rfl rfl) (fun _=>hR118) <|wy 13 rfl (Q7 (v:=v107_1) rfl rfl) (fun _=>hR118) <|wy 14 rfl (Q7 (v := .int .i64 r108.2.2) rfl rfl) (fun _=>hR118) ?_
 refine w1 16 rfl (Q8 0 24 hS rfl zb110 rfl rfl f107_0 rfl rfl (Lf (rr zb110) f107_0) hd112 ?_)
 intro cs112 w111 hb112 ha112 hs112 hS
 refine Yq hS hG98 fun hR119=>wy 17 rfl (Qj (v107_1) rfl) (fun _=>hR119) <|wy 18 rfl (Qj (.int .i64 r108.2.2) rfl) (fun _=>hR119) ?_
 refine wd (Qa ?_)
 exact ⟨M107,b110,cs112,d113,v107_1,r108.2.1,r108.2.2,hF96,hS,hb112,hb110,f107_1,rfl,hT45_0,hT45_4,hT45_6,rfl,rfl,hz⟩
 rintro T58 w56 ⟨M57,b59,cs59,d60,v62,l61,y63,hx64,hS,hb59,hs59,hv62,hT58_9,hT58_0,hT58_4,hT58_6,hT58_10,hT58_11,hz⟩
 replace hb35:=Rep.mono hx64.1 hb35
 replace hb46:=Rep.mono hx64.1 hb46
 replace hb48:=Rep.mono hx64.1 hb48
 replace hk53:=Zn hx64.1 hk53
 replace hE:=Qd hE hx64
 rw [qju] at hz
 refine Qh <|Qh <|Qi <|Qc (Qe (.int .i64 y63) hT58_11) <|Qc (Yl rfl rfl) ?_
 refine Qf (Qa ?_)
 refine Qr rfl (fun hc65 => ?_) (fun hc65 => ?_)
 replace hz:=Qn hz hc65
 refine Qh <|Qi <|Qc (Qe (.int .i64 y63) hT58_11) ?_
 have k66_0:=Vy (Zr.zr:rep M57 (Zr.zc GReply) (Zr.zd:GReply)) (ri y63:rep M57 _ _)
 obtain ⟨d67,hd66,hz⟩:=Qb hz
 obtain ⟨cs66,hf66,ha66⟩ : ∃ cs,qbj (([(0,1),(1,1),(2,1)]:List (Nat × Nat))[·]?) (Zr.zc GReply) [(0,.int .i64 y63)]=some cs∧rep M57 cs d67:=⟨_,(Q9 (Zr.zr:rep M57 (Zr.zc GReply) (Zr.zd:GReply)) rfl rfl (Rep.len (ri y63:rep M57 _ _)) (by decide) Z2),Z3 (x:=({ code:=y63,n:=Zr.zd,values:=Zr.zd }:GReply)) k66_0 hd66⟩
 refine Qc (Zt [(0,.int .i64 y63)] qy1 (Ym rfl Vb) hf66) ?_
 obtain ⟨d70,hd69,hz⟩:=Qb hz
 refine Qs (Q8 2 3 hS rfl hb46 hT58_4 rfl ha66 rfl rfl (Lf (rr hb46) ha66) hd69 ?_)
 intro cs69 w68 hb69 ha69 hs69 hS
 refine Qf (Qa ?_)
 cases hz
 exact Q4 (Qq (Jq (j:=2) rfl hT58_4 (by rw [Rep.len hb69];exact Kn) hS rfl ⟨_,M57,_,rfl,hE,(hS.sel (H':=[.box bx1 cs48 90,.stk v50 9 1 xs51]) [4,5] (by decide) rfl),cs69,cs48,v50,xs51,rfl,rfl,hb69,hb48,hk53,hp54⟩))
 replace hz:=Qo hz hc65
 refine Qt (Qa ?_)
 refine Qh <|Yu [.box b59 cs59 49,.box b33 cs35 118] [] Ya hS fun w71 hS hG72 hR73=>wy 0 rfl (Qe (.pointer (some ⟨bx1,0,none⟩)) hT58_0) (fun _=>hR73) <|wy 1 rfl (Qp Yk hT58_6) (fun _=>hR73) <|Y8 2 rfl (Qm (.int .i64 d36.id) Yb rfl (Yp 1 rfl) (Z9 (rr hb35))) hR73 ?_
 have ha74:=(rr hb59)
 refine Y8 3 rfl (Zf Vc hT58_9 (Yp 0 rfl) (Rep.len ha74)) hR73 <|wy 4 rfl (Q6 rfl) (fun _=>hR73) <|wy 5 rfl (Qp qqx rfl) (fun _=>hR73) ?_
 obtain ⟨u75,hx76,hz⟩:=Qb hz
 obtain ⟨hx76a,hx76b⟩:=Qw hx76
 refine wy 6 rfl (Ze q7c rfl rfl hx76a hx76b) (fun _=>hR73) ?_
 obtain ⟨x79,hx80,hz⟩:=Qb hz
 obtain ⟨a81,hx82,hz⟩:=Qb hz
 obtain ⟨d83,hd78,hz⟩:=Qb hz
 have hq85:=(Zo hx80)
 refine w1 7 rfl (Q8 4 24 hS rfl hb48 rfl rfl ha74 rfl rfl (GCluster.u4 (rr hb48) (vu (k:=24) rfl rfl (Ve (rr hb48)) (Lf (vp (k:=24) rfl rfl (Ve (rr hb48)) hx80) ha74) hx82)) hd78 ?_)
 intro cs78 w77 hb78 ha78 hs78 hS
 have hp84:=(ha78 (by omega)).trans hp54
 refine Yq hS hG72 fun hR86 => ?_
 refine wd (Qa ?_)
 refine Qh <|Qi <|Qc (Qe (.pointer (some ⟨bx1,0,none⟩)) hT58_0) <|Qc (Qe (v62) hT58_10) ?_
 obtain ⟨r89,hr88,hz⟩:=Qb hz
 refine Qs (Zl (vs:=[.pointer (some ⟨bx1,0,none⟩),v62]) (L:=[.box bx1 cs78 90,.stk v50 9 1 xs51]) (R:=[.box b59 cs59 49,.box b33 cs35 118,.box b8 cs46 40,.box b6 cx4 43]) (rv:=(fun M' u L' => ∃ k0 u1 x1,u = .tuple #[]∧L'=[.box bx1 k0 90,.stk u1 9 1 x1]∧rep M' k0 r89.1∧skr M' u1 x1 r89.2∧sl k0 1993 1=[u1])) q9n (Z8 rfl rfl) hS (hS.sel [4,5,0,1,2,3] (by decide) rfl) (fun hS=>qls hS hb78 hk53 hp84 hv62 hr88) ?_)
 rintro u88 M88 w87 L88 hx88 ⟨k0_88,u1_88,x1_88,rfl,hL88,f88_0,f88_1,f88_2⟩ hS
 replace hS:=hS _ hL88
 replace hb35:=Rep.mono hx88.1 hb35
 refine Qf (Qa ?_)
 refine Qh <|Qi <|Qc (Qe (.pointer (some ⟨bx1,0,none⟩)) hT58_0) <|Qc (Qp Yk hT58_6) <|Qc (Qm (.int .i64 d36.id) Yb rfl (hS.bvB 3 rfl) (Z9 (rr hb35))) ?_
 obtain ⟨r92,hr91,hz⟩:=Qb hz
 refine Qs (Zl (vs:=[.pointer (some ⟨bx1,0,none⟩),.int .i64 d36.id]) (L:=[.box bx1 k0_88 90]) (R:=[.stk u1_88 9 1 x1_88,.box b59 cs59 49,.box b33 cs35 118,.box b8 cs46 40,.box b6 cx4 43]) (rv:=(fun M' u L' => ∃ c0,u = .agg c0.toArray∧L'=[.box bx1 k0_88 90]∧rep M' c0 r92)) cb51 (Z8 rfl rfl) hS (hS.sel [0,1,2,3,4,5] (by decide) rfl) (fun hS=>qt4 hS f88_0 hr91) ?_)
 rintro u91 M91 w90 L91 hx91 ⟨c0_91,rfl,hL91,f91_0⟩ hS
 replace hS:=hS _ hL91
 replace hb46:=Rep.mono (hx88.1.trans hx91.1) hb46
 replace f88_0:=Rep.mono hx91.1 f88_0
 replace f88_1:=Zn hx91.1 f88_1
 replace hE:=Qd hE (hx88.trans hx91)
 obtain ⟨d95,hd94,hz⟩:=Qb hz
 refine Qs (Q8 4 3 hS rfl hb46 hT58_4 rfl f91_0 rfl rfl (Lf (rr hb46) f91_0) hd94 ?_)
 intro cs94 w93 hb94 ha94 hs94 hS
 refine Qf (Qa ?_)
 cases hz
 exact Q4 (Jq (j:=4) rfl hT58_4 (by rw [Rep.len hb94];exact Kn) hS rfl ⟨_,M91,_,rfl,hE,(hS.sel (H':=[.box bx1 k0_88 90,.stk u1_88 9 1 x1_88]) [0,1] (by decide) rfl),cs94,k0_88,u1_88,x1_88,rfl,rfl,hb94,f88_0,f88_1,f88_2⟩)
def qfv (d13:GReply) (d15:GCluster) (l18:List ByteArray):Option (GReply × GCluster × (List ByteArray)) :=
 (some ({ code:=Zr.zd,n:=Zr.zd,values:=Zr.zd }:GReply)).bind fun d23 =>
 (some d23).bind fun d26 =>
 some (d26,d15,l18)
def qcy (fu:Nat) (x1:GCluster) (l3:List ByteArray) (x4:GAct) (c31:Bool):Option (GReply × GCluster × (List ByteArray)) :=
 (bif c31 then
 (some ({ code:=2,n:=Zr.zd,values:=Zr.zd }:GReply)).bind fun d35 =>
 (some d35).bind fun d38 =>
 some (d38,x1,l3)
 else
 (inR x4.n 6).bind fun _ =>
 (qa7 x1.down x4.n).bind fun x41 =>
 (bif !(x41==(x4.kind==8)) then
 (some ({ code:=6,n:=Zr.zd,values:=Zr.zd }:GReply)).bind fun d46 =>
 (some d46).bind fun d49 =>
 some (d49,x1,l3)
 else
 (bif x4.kind==7 then
 (inR x4.n 6).bind fun _ =>
 (qa7 x1.tear x4.n).bind fun x58 =>
 (qe2 x1.tear x4.n (IntKind.wrap .i64 (x4.m+1))).bind fun a60 =>
 (some ({ x1 with tear:=a60 }:GCluster)).bind fun d62 =>
 qfv (Zr.zd:GReply) d62 l3
 else
 (bif x4.kind==6 then
 (some ({ entries:=Zr.zd,order:=Zr.zd,values:=Zr.zd }:GNode)).bind fun d71 =>
 (inR x4.n 6).bind fun _ =>
 (qa7 x1.nodes x4.n).bind fun x76 =>
 (qe2 x1.nodes x4.n d71).bind fun a78 =>
 (some ({ x1 with nodes:=a78 }:GCluster)).bind fun d80 =>
 (inR x4.n 6).bind fun _ =>
 (qa7 d80.down x4.n).bind fun x88 =>
 (qe2 d80.down x4.n true).bind fun a90 =>
 (some ({ d80 with down:=a90 }:GCluster)).bind fun d92 =>
 (inR x4.n 6).bind fun _ =>
 (qa7 d92.tear x4.n).bind fun x100 =>
 (qe2 d92.tear x4.n 0).bind fun a102 =>
 (some ({ d92 with tear:=a102 }:GCluster)).bind fun d104 =>
 qfv (Zr.zd:GReply) d104 l3
 else
 (inR x4.n 6).bind fun _ =>
 (qa7 x1.logs x4.n).bind fun x110 =>
 (qsa fu x110).bind fun r114 =>
 (inR x4.n 6).bind fun _ =>
 (qa7 x1.logs x4.n).bind fun x120 =>
 (qyr x120 none (some r114.2)).bind fun s123 =>
 (inR x4.n 6).bind fun _ =>
 (q3k s123).bind fun _ =>
 (qa7 x1.logs x4.n).bind fun x129 =>
 (qe2 x1.logs x4.n s123).bind fun a131 =>
 (some ({ x1 with logs:=a131 }:GCluster)).bind fun d133 =>
 (qes fu x4.n r114.1).bind fun r141 =>
 (inR x4.n 6).bind fun _ =>
 (qa7 d133.nodes x4.n).bind fun x147 =>
 (qe2 d133.nodes x4.n r141.1).bind fun a149 =>
 (some ({ d133 with nodes:=a149 }:GCluster)).bind fun d151 =>
 (inR x4.n 6).bind fun _ =>
 (qa7 d151.down x4.n).bind fun x159 =>
 (qe2 d151.down x4.n false).bind fun a161 =>
 (some ({ d151 with down:=a161 }:GCluster)).bind fun d163 =>
 qfv (Zr.zd:GReply) d163 l3))))
def qlw (fu:Nat) (x1:GCluster) (l3:List ByteArray) (x4:GAct):Option (GReply × GCluster × (List ByteArray)) :=
 (bif decide (x4.n<0) then
 qcy fu x1 l3 x4 true
 else
 (bif decide (x4.n≥6) then
 qcy fu x1 l3 x4 true
 else
 (bif x4.kind==7 then
 (bif decide (x4.m<0) then
 qcy fu x1 l3 x4 true
 else
 qcy fu x1 l3 x4 (decide (x4.m>400)))
 else
 qcy fu x1 l3 x4 false)))
theorem qza {M:Mm} {w:World} {bx1:Nat} {cx1:List Value} {ux1_6:Value} {xsx1_6:List Value} {cx4:List Value} {x1:GCluster} {l3:List ByteArray} {x4:GAct} {fu:Nat} {r:GReply × GCluster × (List ByteArray)} (hS:St w (qai [.box bx1 cx1 90,.stk ux1_6 9 1 xsx1_6]) M [.box bx1 cx1 90,.stk ux1_6 9 1 xsx1_6] w) (hcx1:rep M cx1 x1) (hkx1_6:skr M ux1_6 xsx1_6 l3) (hpx1_6:sl cx1 1993 1=[ux1_6]) (hcx4:rep M cx4 x4) (hz:qlw fu x1 l3 x4=some r) :
    Calls Try.prog 52 #[.pointer (some ⟨bx1,0,none⟩),.agg cx4.toArray] w (qcv M w [.box bx1 cx1 90,.stk ux1_6 9 1 xsx1_6] (fun M' u L' => ∃ c0 k0 u1 x1,u = .agg c0.toArray∧L'=[.box bx1 k0 90,.stk u1 9 1 x1]∧rep M' c0 r.1∧rep M' k0 r.2.1∧skr M' u1 x1 r.2.2∧sl k0 1993 1=[u1])):=by
 refine Zh Try.func52 rfl 117 rfl rfl (by kernel_rfl) fun T hT => ?_
 have hT_0:T 0 = .pointer (some ⟨bx1,0,none⟩):=hT 0
 have hT_1:T 1 = .agg cx4.toArray:=hT 1
 clear hT
 have hE:=Qg w.heap.size (qai [.box bx1 cx1 90,.stk ux1_6 9 1 xsx1_6]) M
 rw [qlw] at hz
 refine Qh <|Qi ?_
 refine Qs (Yo (v := .agg cx4.toArray) (cs:=cx4) hT_1 rfl hS ?_)
 intro b6 w5 hb6 hS
 refine Qs (Zg q3n hS ?_)
 intro b8 w7 hb8 hS
 have zb8:rep M (Zr.zc GReply) (Zr.zd:GReply):=Zr.zr
 refine Qf (Qa ?_)
 refine Qh <|Qi <|Qc (Qp Ko rfl) <|Qc (Qm (.int .i64 x4.n) Yb rfl (hS.bvB 1 rfl) (V0 (rr hcx4))) <|Qc (Qj (.int .i64 x4.n) rfl) ?_
 refine Qf (Qa ?_)
 refine Q0 (fun T' w' => ∃ M10 cs12 d13 cs14 d15 v16 xs17 l18,Mm.ext w.heap.size (qai [.box bx1 cx1 90,.stk ux1_6 9 1 xsx1_6]) M M10∧St w (qai [.box bx1 cx1 90,.stk ux1_6 9 1 xsx1_6]) M10 [.box b8 cs12 40,.box b6 cx4 43,.box bx1 cs14 90,.stk v16 9 1 xs17] w'∧rep M10 cs12 d13∧rep M10 cs14 d15∧skr M10 v16 xs17 l18∧sl cs14 (0+1993) 1=[v16]∧T' 4 = .pointer (some ⟨b8,0,none⟩)∧qfv d13 d15 l18=some r) ?_ ?_
 have hF27:=Qg w.heap.size (qai [.box bx1 cx1 90,.stk ux1_6 9 1 xsx1_6]) M
 refine Qv ?_
 refine Q0 (fun T' w' => ∃ M29 c31,Mm.ext w.heap.size (qai [.box bx1 cx1 90,.stk ux1_6 9 1 xsx1_6]) M M29∧St w (qai [.box bx1 cx1 90,.stk ux1_6 9 1 xsx1_6]) M29 [.box b8 (Zr.zc GReply) 40,.box b6 cx4 43,.box bx1 cx1 90,.stk ux1_6 9 1 xsx1_6] w'∧T' 0 = .pointer (some ⟨bx1,0,none⟩)∧T' 3 = .pointer (some ⟨b6,0,none⟩)∧T' 4 = .pointer (some ⟨b8,0,none⟩)∧T' 5 = .int .i64 x4.n∧T' 49 = .bool c31∧qcy fu x1 l3 x4 c31=some r) ?_ ?_
 have hF166:=Qg w.heap.size (qai [.box bx1 cx1 90,.stk ux1_6 9 1 xsx1_6]) M
 refine Qi <|Qc (Qe (.int .i64 x4.n) rfl) <|Qc (Zv rfl rfl) <|Qc (Qe (.bool (decide (x4.n<0))) rfl) ?_
 rcases ic hz with ⟨hc167,hz⟩ | ⟨hc167,hz⟩<;>rw [hc167]
 refine Q2 19 rfl ?_
 refine Qf (Qa ?_)
 exact ⟨M,true,hF166,hS,hT_0,rfl,rfl,rfl,rfl,hz⟩
 refine Qk rfl rfl (Qe (.int .i64 x4.n) rfl) <|Qk rfl rfl (Vd rfl rfl) <|Q2 2 rfl ?_
 rcases ic hz with ⟨hc168,hz⟩ | ⟨hc168,hz⟩<;>rw [hc168]
 refine Q2 15 rfl ?_
 refine Qf (Qa ?_)
 exact ⟨M,true,hF166,hS,hT_0,rfl,rfl,rfl,rfl,hz⟩
 refine Qk rfl rfl (Qp qop rfl) <|Qk rfl rfl (Qm (.int .i64 x4.kind) Yb rfl (hS.bvB 1 rfl) (Jg (rr hcx4))) <|Qk rfl rfl (Yd rfl rfl) <|Qk rfl rfl (Qe (.bool (x4.kind==7)) rfl) ?_
 rcases ic hz with ⟨hc169,hz⟩ | ⟨hc169,hz⟩<;>rw [hc169]
 refine Qk rfl rfl (Qp q02 rfl) <|Qk rfl rfl (Qm (.int .i64 x4.m) Yb rfl (hS.bvB 1 rfl) (GAct.p2 (rr hcx4))) <|Qk rfl rfl (Zv rfl rfl) <|Qk rfl rfl (Qe (.bool (decide (x4.m<0))) rfl) ?_
 rcases ic hz with ⟨hc170,hz⟩ | ⟨hc170,hz⟩<;>rw [hc170]
 refine Q2 7 rfl ?_
 refine Qf (Qa ?_)
 exact ⟨M,true,hF166,hS,hT_0,rfl,rfl,rfl,rfl,hz⟩
 refine Qk rfl rfl (Qp q02 rfl) <|Qk rfl rfl (Qm (.int .i64 x4.m) Yb rfl (hS.bvB 1 rfl) (GAct.p2 (rr hcx4))) <|Qk rfl rfl (Yr rfl rfl) <|Q2 4 rfl ?_
 refine Qf (Qa ?_)
 exact ⟨M,(decide (x4.m>400)),hF166,hS,hT_0,rfl,rfl,rfl,rfl,hz⟩
 refine Q2 11 rfl ?_
 refine Qf (Qa ?_)
 exact ⟨M,false,hF166,hS,hT_0,rfl,rfl,rfl,rfl,hz⟩
 rintro T30 w28 ⟨M29,c31,hx32,hS,hT30_0,hT30_3,hT30_4,hT30_5,hT30_49,hz⟩
 replace hcx1:=Rep.mono hx32.1 hcx1
 replace hkx1_6:=Zn hx32.1 hkx1_6
 replace hcx4:=Rep.mono hx32.1 hcx4
 replace zb8:=Rep.mono hx32.1 zb8
 replace hE:=Qd hE hx32
 replace hF27:=Qd hF27 hx32
 rw [qcy] at hz
 refine Qr hT30_49 (fun hc33 => ?_) (fun hc33 => ?_)
 replace hz:=Qn hz hc33
 refine Qh <|Qi ?_
 have k34_0:=Vy (Zr.zr:rep M29 (Zr.zc GReply) (Zr.zd:GReply)) (ri 2:rep M29 _ _)
 obtain ⟨d35,hd34,hz⟩:=Qb hz
 obtain ⟨cs34,hf34,ha34⟩ : ∃ cs,qbj (([(0,1),(1,1),(2,1)]:List (Nat × Nat))[·]?) (Zr.zc GReply) [(0,.int .i64 2)]=some cs∧rep M29 cs d35:=⟨_,(Q9 (Zr.zr:rep M29 (Zr.zc GReply) (Zr.zd:GReply)) rfl rfl (Rep.len (ri 2:rep M29 _ _)) (by decide) Z2),Z3 (x:=({ code:=2,n:=Zr.zd,values:=Zr.zd }:GReply)) k34_0 hd34⟩
 refine Qc (Zt [(0,.int .i64 2)] qy1 (Ym rfl Vb) hf34) ?_
 obtain ⟨d38,hd37,hz⟩:=Qb hz
 refine Qs (Q8 0 3 hS rfl zb8 hT30_4 rfl ha34 rfl rfl (Lf (rr zb8) ha34) hd37 ?_)
 intro cs37 w36 hb37 ha37 hs37 hS
 refine Qf (Qa ?_)
 cases hz
 exact Q4 (Zb (Qq (Jq (j:=0) rfl hT30_4 (by rw [Rep.len hb37];exact Kn) hS rfl ⟨_,M29,_,rfl,hE,(hS.sel (H':=[.box bx1 cx1 90,.stk ux1_6 9 1 xsx1_6]) [2,3] (by decide) rfl),cs37,cx1,ux1_6,xsx1_6,rfl,rfl,hb37,hcx1,hkx1_6,hpx1_6⟩)))
 replace hz:=Qo hz hc33
 refine Qh <|qr0 Ya (by kernel_rfl) hS <|Yv (Qe (.pointer (some ⟨bx1,0,none⟩)) hT30_0) <|Yv (Qe (.int .i64 x4.n) hT30_5) <|Yv (Q6 rfl) <|Yv (Qp qqw rfl) ?_
 obtain ⟨u39,hx40,hz⟩:=Qb hz
 obtain ⟨hx40a,hx40b⟩:=Qw hx40
 refine Yv (Ze Jr rfl rfl hx40a hx40b) ?_
 obtain ⟨x41,hx42,hz⟩:=Qb hz
 refine Yv (Qm (.bool x41) Jl rfl (q67 (j:=2) rfl) (vp (k:=1) rfl rfl (Y3 (rr hcx1)) hx42)) <|Yv (Qp qop hT30_3) <|Yv (Qm (.int .i64 x4.kind) Yb rfl (q67 (j:=1) rfl) (Jg (rr hcx4))) <|Yv (Yd rfl rfl) <|Yv (q5m rfl rfl K0) <|Yv (Qj (.bool (!(x41==(x4.kind==8)))) rfl) <|qxl ?_
 intro w43 hS
 refine (Qa ?_)
 refine Qr rfl (fun hc44 => ?_) (fun hc44 => ?_)
 replace hz:=Qn hz hc44
 refine Qh <|Qi ?_
 have k45_0:=Vy (Zr.zr:rep M29 (Zr.zc GReply) (Zr.zd:GReply)) (ri 6:rep M29 _ _)
 obtain ⟨d46,hd45,hz⟩:=Qb hz
 obtain ⟨cs45,hf45,ha45⟩ : ∃ cs,qbj (([(0,1),(1,1),(2,1)]:List (Nat × Nat))[·]?) (Zr.zc GReply) [(0,.int .i64 6)]=some cs∧rep M29 cs d46:=⟨_,(Q9 (Zr.zr:rep M29 (Zr.zc GReply) (Zr.zd:GReply)) rfl rfl (Rep.len (ri 6:rep M29 _ _)) (by decide) Z2),Z3 (x:=({ code:=6,n:=Zr.zd,values:=Zr.zd }:GReply)) k45_0 hd45⟩
 refine Qc (Zt [(0,.int .i64 6)] qy1 (Ym rfl Vb) hf45) ?_
 obtain ⟨d49,hd48,hz⟩:=Qb hz
 refine Qs (Q8 0 3 hS rfl zb8 hT30_4 rfl ha45 rfl rfl (Lf (rr zb8) ha45) hd48 ?_)
 intro cs48 w47 hb48 ha48 hs48 hS
 refine Qf (Qa ?_)
 cases hz
 exact Q4 (Zb (Qq (Jq (j:=0) rfl hT30_4 (by rw [Rep.len hb48];exact Kn) hS rfl ⟨_,M29,_,rfl,hE,(hS.sel (H':=[.box bx1 cx1 90,.stk ux1_6 9 1 xsx1_6]) [2,3] (by decide) rfl),cs48,cx1,ux1_6,xsx1_6,rfl,rfl,hb48,hcx1,hkx1_6,hpx1_6⟩)))
 replace hz:=Qo hz hc44
 refine Qh <|Qi <|Qc (Qp qop hT30_3) <|Qc (Qm (.int .i64 x4.kind) Yb rfl (hS.bvB 1 rfl) (Jg (rr hcx4))) <|Qc (Yd rfl rfl) <|Qc (Qj (.bool (x4.kind==7)) rfl) ?_
 refine Qf (Qa ?_)
 refine Qr rfl (fun hc50 => ?_) (fun hc50 => ?_)
 replace hz:=Qn hz hc50
 refine Yu [.box b6 cx4 43] [] Ya hS fun w51 hS hG52 hR53=>wy 0 rfl (Qe (.pointer (some ⟨bx1,0,none⟩)) hT30_0) (fun _=>hR53) <|wy 1 rfl (Qe (.int .i64 x4.n) hT30_5) (fun _=>hR53) <|wy 2 rfl (Qp q02 hT30_3) (fun _=>hR53) <|Y8 3 rfl (Qm (.int .i64 x4.m) Yb rfl (Yp 0 rfl) (GAct.p2 (rr hcx4))) hR53 <|wy 4 rfl (Zz rfl rfl) (fun _=>hR53) <|wy 5 rfl (Q6 rfl) (fun _=>hR53) <|wy 6 rfl (Qp qti rfl) (fun _=>hR53) ?_
 obtain ⟨u54,hx55,hz⟩:=Qb hz
 obtain ⟨hx55a,hx55b⟩:=Qw hx55
 refine wy 7 rfl (Ze q8k rfl rfl hx55a hx55b) (fun _=>hR53) ?_
 obtain ⟨x58,hx59,hz⟩:=Qb hz
 obtain ⟨a60,hx61,hz⟩:=Qb hz
 obtain ⟨d62,hd57,hz⟩:=Qb hz
 have hq64:=(Zo hx59)
 refine w1 8 rfl (Q8 2 1 hS rfl hcx1 rfl rfl (ri (IntKind.wrap .i64 (x4.m+1)):rep M29 _ _) rfl rfl (GCluster.u3 (rr hcx1) (vu (k:=1) rfl rfl (Vf (rr hcx1)) (Lf (vp (k:=1) rfl rfl (Vf (rr hcx1)) hx59) (ri (IntKind.wrap .i64 (x4.m+1)):rep M29 _ _)) hx61)) hd57 ?_)
 intro cs57 w56 hb57 ha57 hs57 hS
 have hp63:=(ha57 (by omega)).trans hpx1_6
 refine Yq hS hG52 fun hR65 => ?_
 refine wd (Za ?_)
 refine (Qa ?_)
 exact ⟨M29,(Zr.zc GReply),(Zr.zd:GReply),cs57,d62,ux1_6,xsx1_6,l3,hF27,hS,zb8,hb57,hkx1_6,hp63,hT30_4,hz⟩
 replace hz:=Qo hz hc50
 refine Qh <|Qi <|Qc (Qp qop hT30_3) <|Qc (Qm (.int .i64 x4.kind) Yb rfl (hS.bvB 1 rfl) (Jg (rr hcx4))) <|Qc (Yd rfl rfl) <|Qc (Qj (.bool (x4.kind==6)) rfl) ?_
 refine Qf (Qa ?_)
 refine Qr rfl (fun hc66 => ?_) (fun hc66 => ?_)
 replace hz:=Qn hz hc66
 refine Yu [] [] Ya hS fun w67 hS hG68 hR69=>wy 0 rfl (Qe (.pointer (some ⟨bx1,0,none⟩)) hT30_0) (fun _=>hR69) <|wy 1 rfl (Qe (.int .i64 x4.n) hT30_5) (fun _=>hR69) <|wy 2 rfl (Qe (.pointer (some ⟨bx1,0,none⟩)) hT30_0) (fun _=>hR69) <|wy 3 rfl (Qe (.int .i64 x4.n) hT30_5) (fun _=>hR69) <|wy 4 rfl (Qe (.pointer (some ⟨bx1,0,none⟩)) hT30_0) (fun _=>hR69) <|wy 5 rfl (Qe (.int .i64 x4.n) hT30_5) (fun _=>hR69) ?_
 obtain ⟨d71,hd70,hz⟩:=Qb hz
 obtain ⟨cs70,hf70,ha70⟩ : ∃ cs,qbj (([(0,192),(192,1),(193,8)]:List (Nat × Nat))[·]?) (Zr.zc GNode) []=some cs∧rep M29 cs d71:=⟨_,Z2,Z3 (x:=({ entries:=Zr.zd,order:=Zr.zd,values:=Zr.zd }:GNode)) (Zr.zr:rep M29 (Zr.zc GNode) (Zr.zd:GNode)) hd70⟩
 refine wy 6 rfl (Zt [] q8b Vb hf70) (fun _=>hR69) <|wy 7 rfl (Q6 rfl) (fun _=>hR69) <|wy 8 rfl (Qp qqv rfl) (fun _=>hR69) ?_
 obtain ⟨u72,hx73,hz⟩:=Qb hz
 obtain ⟨hx73a,hx73b⟩:=Qw hx73
 refine wy 9 rfl (Ze q7b rfl rfl hx73a hx73b) (fun _=>hR69) <|wy 11 rfl (Q6 rfl) (fun _=>hR69) <|wy 12 rfl (Qp qqw rfl) (fun _=>hR69) <|wy 15 rfl (Q6 rfl) (fun _=>hR69) <|wy 16 rfl (Qp qti rfl) (fun _=>hR69) ?_
 obtain ⟨x76,hx77,hz⟩:=Qb hz
 obtain ⟨a78,hx79,hz⟩:=Qb hz
 obtain ⟨d80,hd75,hz⟩:=Qb hz
 have hq82:=(Zo hx77)
 refine w1 10 rfl (Q8 2 201 hS rfl hcx1 rfl rfl ha70 rfl rfl (K9 (rr hcx1) (vu (k:=201) rfl rfl (Yy (rr hcx1)) (Lf (vp (k:=201) rfl rfl (Yy (rr hcx1)) hx77) ha70) hx79)) hd75 ?_)
 intro cs75 w74 hb75 ha75 hs75 hS
 have hp81:=(ha75 (by omega)).trans hpx1_6
 refine Yq hS hG68 fun hR83 => ?_
 obtain ⟨u84,hx85,hz⟩:=Qb hz
 obtain ⟨hx85a,hx85b⟩:=Qw hx85
 refine wy 13 rfl (Ze Jr rfl rfl hx85a hx85b) (fun _=>hR83) ?_
 obtain ⟨x88,hx89,hz⟩:=Qb hz
 obtain ⟨a90,hx91,hz⟩:=Qb hz
 obtain ⟨d92,hd87,hz⟩:=Qb hz
 have hq94:=(Zo hx89)
 refine w1 14 rfl (Q8 2 1 hS rfl hb75 rfl rfl (rb true:rep M29 _ _) rfl rfl (GCluster.u2 (rr hb75) (vu (k:=1) rfl rfl (Y3 (rr hb75)) (Lf (vp (k:=1) rfl rfl (Y3 (rr hb75)) hx89) (rb true:rep M29 _ _)) hx91)) hd87 ?_)
 intro cs87 w86 hb87 ha87 hs87 hS
 have hp93:=(ha87 (by omega)).trans hp81
 refine Yq hS hG68 fun hR95 => ?_
 obtain ⟨u96,hx97,hz⟩:=Qb hz
 obtain ⟨hx97a,hx97b⟩:=Qw hx97
 refine wy 17 rfl (Ze q8k rfl rfl hx97a hx97b) (fun _=>hR95) ?_
 obtain ⟨x100,hx101,hz⟩:=Qb hz
 obtain ⟨a102,hx103,hz⟩:=Qb hz
 obtain ⟨d104,hd99,hz⟩:=Qb hz
 have hq106:=(Zo hx101)
 refine w1 18 rfl (Q8 2 1 hS rfl hb87 rfl rfl (ri 0:rep M29 _ _) rfl rfl (GCluster.u3 (rr hb87) (vu (k:=1) rfl rfl (Vf (rr hb87)) (Lf (vp (k:=1) rfl rfl (Vf (rr hb87)) hx101) (ri 0:rep M29 _ _)) hx103)) hd99 ?_)
 intro cs99 w98 hb99 ha99 hs99 hS
 have hp105:=(ha99 (by omega)).trans hp93
 refine Yq hS hG68 fun hR107 => ?_
 refine wd (Za ?_)
 refine (Qa ?_)
 exact ⟨M29,(Zr.zc GReply),(Zr.zd:GReply),cs99,d104,ux1_6,xsx1_6,l3,hF27,hS,zb8,hb99,hkx1_6,hp105,hT30_4,hz⟩
 replace hz:=Qo hz hc66
 refine Qh <|Qi <|Qc (Qe (.pointer (some ⟨bx1,0,none⟩)) hT30_0) <|Qc (Qe (.int .i64 x4.n) hT30_5) <|Qc (Q6 rfl) <|Qc (Qp qor rfl) ?_
 obtain ⟨u108,hx109,hz⟩:=Qb hz
 obtain ⟨hx109a,hx109b⟩:=Qw hx109
 refine Qc (Ze q55 rfl rfl hx109a hx109b) ?_
 obtain ⟨x110,hx111,hz⟩:=Qb hz
 refine Qc (Qm (.string x110) ts9 rfl (hS.bvB 2 rfl) (vp (k:=1) rfl rfl (Yz (rr hcx1)) hx111).1) ?_
 obtain ⟨r114,hr113,hz⟩:=Qb hz
 refine Qs (Y0 (vs:=[.string x110]) (rv:=(fun M' u => ∃ v0,u = .tuple #[v0,.int .i64 r114.2]∧repL M' v0 r114.1)) cb73 (Zu rfl) hS (q1r hS.agree hr113) ?_)
 intro u113 M113 w112 hx113 hu113 hS
 obtain ⟨v113_0,hq113,f113_0⟩:=hu113
 subst hq113
 replace hcx1:=Rep.mono hx113.1 hcx1
 refine Qc (Qe (.tuple #[v113_0,.int .i64 r114.2]) rfl) <|Qc (Q7 (v:=v113_0) rfl rfl) <|Qc (Q7 (v := .int .i64 r114.2) rfl rfl) <|Q2 2 rfl ?_
 refine Qf (Qa ?_)
 refine Qh <|Yu [.box bx1 cx1 90] [13] Ya hS fun w115 hS hG116 hR117=>wy 0 rfl (Qe (.pointer (some ⟨bx1,0,none⟩)) hT30_0) (fun _=>hR117) <|wy 1 rfl (Qe (.int .i64 x4.n) hT30_5) (fun _=>hR117) <|wy 2 rfl (Qe (.pointer (some ⟨bx1,0,none⟩)) hT30_0) (fun _=>hR117) <|wy 3 rfl (Qe (.int .i64 x4.n) hT30_5) (fun _=>hR117) <|wy 4 rfl (Q6 rfl) (fun _=>hR117) <|wy 5 rfl (Qp qor rfl) (fun _=>hR117) ?_
 obtain ⟨u118,hx119,hz⟩:=Qb hz
 obtain ⟨hx119a,hx119b⟩:=Qw hx119
 refine wy 6 rfl (Ze q55 rfl rfl hx119a hx119b) (fun _=>hR117) ?_
 obtain ⟨x120,hx121,hz⟩:=Qb hz
 refine Y8 7 rfl (Qm (.string x120) ts9 rfl (Yp 0 rfl) (vp (k:=1) rfl rfl (Yz (rr hcx1)) hx121).1) hR117 <|wy 8 rfl (Qe (.int .i64 r114.2) rfl) (fun _=>hR117) ?_
 obtain ⟨s123,hx122,hz⟩:=Qb hz
 obtain ⟨⟨pp122,qq122⟩,hc122,hx122⟩:=Option.map_eq_some_iff.1 hx122
 refine wy 9 rfl ((hx122 ▸ qxg (l:=none) (h:=(some r114.2)) Zd rfl evn (evs rfl) hc122)) (fun _=>hR117) <|wy 10 rfl (Q6 rfl) (fun _=>hR117) <|wy 11 rfl (Qp qor rfl) (fun _=>hR117) ?_
 obtain ⟨u124,hx125,hz⟩:=Qb hz
 obtain ⟨hx125a,hx125b⟩:=Qw hx125
 refine wy 12 rfl (Ze q55 rfl rfl hx125a hx125b) (fun _=>hR117) ?_
 obtain ⟨_,hx127,hz⟩:=Qb hz
 have hx127:=Ke hx127
 obtain ⟨x129,hx130,hz⟩:=Qb hz
 obtain ⟨a131,hx132,hz⟩:=Qb hz
 obtain ⟨d133,hd128,hz⟩:=Qb hz
 have hq135:=(Zo hx130)
 refine w1 13 rfl (Q8 2 1 hS rfl hcx1 rfl rfl (Vw hx127:rep M113 [Value.string s123] s123) rfl rfl (GCluster.u1 (rr hcx1) (vu (k:=1) rfl rfl (Yz (rr hcx1)) (Lf (vp (k:=1) rfl rfl (Yz (rr hcx1)) hx130) (Vw hx127:rep M113 [Value.string s123] s123)) hx132)) hd128 ?_)
 intro cs128 w126 hb128 ha128 hs128 hS
 have hp134:=(ha128 (by omega)).trans hpx1_6
 refine ⟨nB,?_⟩
 refine wd (Qa ?_)
 refine Qh <|Yu [] [] Ya hS fun w136 hS hG137 hR138=>wy 0 rfl (Qe (.pointer (some ⟨bx1,0,none⟩)) hT30_0) (fun _=>hR138) <|wy 1 rfl (Qe (.int .i64 x4.n) hT30_5) (fun _=>hR138) <|wy 2 rfl (Qe (.int .i64 x4.n) hT30_5) (fun _=>hR138) <|wy 3 rfl (Qe (v113_0) rfl) (fun _=>hR138) <|wy 8 rfl (Q6 rfl) (fun _=>hR138) <|wy 9 rfl (Qp qqv rfl) (fun _=>hR138) ?_
 obtain ⟨r141,hr140,hz⟩:=Qb hz
 refine w1 4 rfl (Y0 (vs:=[.int .i64 x4.n,v113_0]) (rv:=(fun M' u => ∃ c0,u = .tuple #[.agg c0.toArray,.int .i64 r141.2]∧rep M' c0 r141.1)) cb74 (Z8 rfl rfl) hS (qr9 hS.agree f113_0 hr140) ?_)
 intro u140 M140 w139 hx140 hu140 hS
 obtain ⟨c140_0,hq140,f140_0⟩:=hu140
 subst hq140
 replace hkx1_6:=Zn (hx113.1.trans hx140.1) hkx1_6
 replace zb8:=Rep.mono (hx113.1.trans hx140.1) zb8
 replace hb128:=Rep.mono hx140.1 hb128
 replace hF27:=Qd hF27 (hx113.trans hx140)
 replace hG137:=Qd hG137 hx140
 refine Yq hS hG137 fun hR142=>wy 5 rfl (Qe (.tuple #[.agg c140_0.toArray,.int .i64 r141.2]) rfl) (fun _=>hR142) <|wy 6 rfl (Q7 (v := .agg c140_0.toArray) rfl rfl) (fun _=>hR142) <|wy 7 rfl (Q7 (v := .int .i64 r141.2) rfl rfl) (fun _=>hR142) ?_
 obtain ⟨u143,hx144,hz⟩:=Qb hz
 obtain ⟨hx144a,hx144b⟩:=Qw hx144
 refine wy 10 rfl (Ze q7b rfl rfl hx144a hx144b) (fun _=>hR142) ?_
 obtain ⟨x147,hx148,hz⟩:=Qb hz
 obtain ⟨a149,hx150,hz⟩:=Qb hz
 obtain ⟨d151,hd146,hz⟩:=Qb hz
 have hq153:=(Zo hx148)
 refine w1 11 rfl (Q8 2 201 hS rfl hb128 rfl rfl f140_0 rfl rfl (K9 (rr hb128) (vu (k:=201) rfl rfl (Yy (rr hb128)) (Lf (vp (k:=201) rfl rfl (Yy (rr hb128)) hx148) f140_0) hx150)) hd146 ?_)
 intro cs146 w145 hb146 ha146 hs146 hS
 have hp152:=(ha146 (by omega)).trans hp134
 refine Yq hS hG137 fun hR154 => ?_
 refine wd (Qa ?_)
 refine Qi <|Qc (Qe (.pointer (some ⟨bx1,0,none⟩)) hT30_0) <|Qc (Qe (.int .i64 x4.n) hT30_5) <|Qc (Q6 rfl) <|Qc (Qp qqw rfl) ?_
 obtain ⟨u155,hx156,hz⟩:=Qb hz
 obtain ⟨hx156a,hx156b⟩:=Qw hx156
 refine Qc (Ze Jr rfl rfl hx156a hx156b) ?_
 obtain ⟨x159,hx160,hz⟩:=Qb hz
 obtain ⟨a161,hx162,hz⟩:=Qb hz
 obtain ⟨d163,hd158,hz⟩:=Qb hz
 have hq165:=(Zo hx160)
 refine Qs (Q8 2 1 hS rfl hb146 rfl rfl (rb false:rep M140 _ _) rfl rfl (GCluster.u2 (rr hb146) (vu (k:=1) rfl rfl (Y3 (rr hb146)) (Lf (vp (k:=1) rfl rfl (Y3 (rr hb146)) hx160) (rb false:rep M140 _ _)) hx162)) hd158 ?_)
 intro cs158 w157 hb158 ha158 hs158 hS
 have hp164:=(ha158 (by omega)).trans hp152
 refine Qf (Za ?_)
 refine (Qa ?_)
 exact ⟨M140,(Zr.zc GReply),(Zr.zd:GReply),cs158,d163,ux1_6,xsx1_6,l3,hF27,hS,zb8,hb158,hkx1_6,hp164,hT30_4,hz⟩
 rintro T11 w9 ⟨M10,cs12,d13,cs14,d15,v16,xs17,l18,hx21,hS,hb12,hb14,hk19,hp20,hT11_4,hz⟩
 replace hE:=Qd hE hx21
 rw [qfv] at hz
 refine Qh <|Qi ?_
 obtain ⟨d23,hd22,hz⟩:=Qb hz
 obtain ⟨cs22,hf22,ha22⟩ : ∃ cs,qbj (([(0,1),(1,1),(2,1)]:List (Nat × Nat))[·]?) (Zr.zc GReply) []=some cs∧rep M10 cs d23:=⟨_,Z2,Z3 (x:=({ code:=Zr.zd,n:=Zr.zd,values:=Zr.zd }:GReply)) (Zr.zr:rep M10 (Zr.zc GReply) (Zr.zd:GReply)) hd22⟩
 refine Qc (Zt [] qy1 Vb hf22) ?_
 obtain ⟨d26,hd25,hz⟩:=Qb hz
 refine Qs (Q8 0 3 hS rfl hb12 hT11_4 rfl ha22 rfl rfl (Lf (rr hb12) ha22) hd25 ?_)
 intro cs25 w24 hb25 ha25 hs25 hS
 refine Qf (Qa ?_)
 cases hz
 exact Q4 (Jq (j:=0) rfl hT11_4 (by rw [Rep.len hb25];exact Kn) hS rfl ⟨_,M10,_,rfl,hE,(hS.sel (H':=[.box bx1 cs14 90,.stk v16 9 1 xs17]) [2,3] (by decide) rfl),cs25,cs14,v16,xs17,rfl,rfl,hb25,hb14,hk19,hp20⟩)
def qwk (fu:Nat) (d25:GReply) (d27:GCluster) (l30:List ByteArray):Option (GReply × GCluster × (List ByteArray)) :=
 (q1u fu 3).bind fun r37 =>
 (some r37).bind fun d40 =>
 some (d40,d27,l30)
def qpa (fu:Nat) (l3:List ByteArray) (x4:GAct) (d19:GCluster) (d68:GReply):Option (GReply × GCluster × (List ByteArray)) :=
 (inR x4.n 32).bind fun _ =>
 (qa7 d19.cases x4.n).bind fun x75 =>
 (qo0 fu x75 x4.n).bind fun r80 =>
 (qkw fu d19 l3 r80).bind fun r84 =>
 (qmo fu r84.1 x4.n).bind fun r87 =>
 (some r87).bind fun d90 =>
 some (d90,r84.1,r84.2)
def qpb (fu:Nat) (l3:List ByteArray) (x4:GAct) (d19:GCluster) (c95:Bool):Option (GReply × GCluster × (List ByteArray)) :=
 (bif c95 then
 (q1u fu 4).bind fun r101 =>
 (some r101).bind fun d104 =>
 some (d104,d19,l3)
 else
 qpa fu l3 x4 d19 (Zr.zd:GReply))
def qkx (fu:Nat) (l3:List ByteArray) (x4:GAct) (d19:GCluster) (c113:Bool):Option (GReply × GCluster × (List ByteArray)) :=
 (bif c113 then
 (qlw fu d19 l3 x4).bind fun r119 =>
 (some r119.1).bind fun d122 =>
 some (d122,r119.2.1,r119.2.2)
 else
 qwk fu (Zr.zd:GReply) d19 l3)
def qi9 (fu:Nat) (l3:List ByteArray) (x4:GAct) (d19:GCluster) (c53:Bool):Option (GReply × GCluster × (List ByteArray)) :=
 (bif c53 then
 (qlv fu d19 l3 x4).bind fun r59 =>
 (some r59.1).bind fun d62 =>
 some (d62,r59.2.1,r59.2.2)
 else
 (bif x4.kind==5 then
 (bif decide (x4.n<0) then
 qpb fu l3 x4 d19 true
 else
 qpb fu l3 x4 d19 (decide (x4.n≥d19.begun)))
 else
 (bif x4.kind==6 then
 qkx fu l3 x4 d19 (x4.kind==6)
 else
 (bif x4.kind==7 then
 qkx fu l3 x4 d19 (x4.kind==7)
 else
 qkx fu l3 x4 d19 (x4.kind==8)))))
def qt5 (fu:Nat) (x1:GCluster) (l3:List ByteArray) (x4:GAct):Option (GReply × GCluster × (List ByteArray)) :=
 (bif decide (x1.acts≥400) then
 (q1u fu 5).bind fun r13 =>
 (some r13).bind fun d16 =>
 some (d16,x1,l3)
 else
 (some ({ x1 with acts:=IntKind.wrap .i64 (x1.acts+1) }:GCluster)).bind fun d19 =>
 (bif x4.kind==1 then
 (qlt fu d19 l3 x4.ops).bind fun r46 =>
 (some r46.1).bind fun d49 =>
 some (d49,r46.2.1,r46.2.2)
 else
 (bif x4.kind==2 then
 qi9 fu l3 x4 d19 (x4.kind==2)
 else
 (bif x4.kind==3 then
 qi9 fu l3 x4 d19 (x4.kind==3)
 else
 qi9 fu l3 x4 d19 (x4.kind==4)))))
theorem qsc {M:Mm} {w:World} {bx1:Nat} {cx1:List Value} {ux1_6:Value} {xsx1_6:List Value} {cx4:List Value} {x1:GCluster} {l3:List ByteArray} {x4:GAct} {fu:Nat} {r:GReply × GCluster × (List ByteArray)} (hS:St w (qai [.box bx1 cx1 90,.stk ux1_6 9 1 xsx1_6]) M [.box bx1 cx1 90,.stk ux1_6 9 1 xsx1_6] w) (hcx1:rep M cx1 x1) (hkx1_6:skr M ux1_6 xsx1_6 l3) (hpx1_6:sl cx1 1993 1=[ux1_6]) (hcx4:rep M cx4 x4) (hz:qt5 fu x1 l3 x4=some r) :
    Calls Try.prog 19 #[.pointer (some ⟨bx1,0,none⟩),.agg cx4.toArray] w (qcv M w [.box bx1 cx1 90,.stk ux1_6 9 1 xsx1_6] (fun M' u L' => ∃ c0 k0 u1 x1,u = .agg c0.toArray∧L'=[.box bx1 k0 90,.stk u1 9 1 x1]∧rep M' c0 r.1∧rep M' k0 r.2.1∧skr M' u1 x1 r.2.2∧sl k0 1993 1=[u1])):=by
 refine Zh Try.func19 rfl 82 rfl rfl (by kernel_rfl) fun T hT => ?_
 have hT_0:T 0 = .pointer (some ⟨bx1,0,none⟩):=hT 0
 have hT_1:T 1 = .agg cx4.toArray:=hT 1
 clear hT
 have hE:=Qg w.heap.size (qai [.box bx1 cx1 90,.stk ux1_6 9 1 xsx1_6]) M
 rw [qt5] at hz
 refine Qh <|Qi ?_
 refine Qs (Yo (v := .agg cx4.toArray) (cs:=cx4) hT_1 rfl hS ?_)
 intro b6 w5 hb6 hS
 refine Qs (Zg q3n hS ?_)
 intro b8 w7 hb8 hS
 have zb8:rep M (Zr.zc GReply) (Zr.zd:GReply):=Zr.zr
 refine Qf (Qa ?_)
 refine Qh <|Qi <|Qc (Qj (evT (fun _=>undef) (.func 46)) rfl) ?_
 refine Qf (Qa ?_)
 refine Qh <|Qv <|Qh <|Qi <|Qc (Qe (.pointer (some ⟨bx1,0,none⟩)) hT_0) <|Qc (qol rfl rfl Vm) <|Qc (Qj (.bool false) rfl) ?_
 refine Qf (Qa ?_)
 refine qrx rfl <|Qh <|Qi <|Qc (Qe (.pointer (some ⟨bx1,0,none⟩)) hT_0) <|Qc (Q6 rfl) <|Qc (Qp q06 rfl) <|Qc (Qm (.int .i64 x1.acts) Yb rfl (hS.bvB 2 rfl) (GCluster.p7 (rr hcx1))) <|Qc (Vd rfl rfl) <|Qc (Qj (.bool (decide (x1.acts≥400))) rfl) ?_
 refine Qf (Qa ?_)
 refine Qr rfl (fun hc9 => ?_) (fun hc9 => ?_)
 replace hz:=Qn hz hc9
 refine Qh <|Qi <|Qc (Qe (evT (fun _=>undef) (.func 46)) rfl) ?_
 obtain ⟨r13,hr12,hz⟩:=Qb hz
 refine Qs (q34 rfl (Y0 (vs:=[.int .i64 5]) (rv:=(fun M' u => ∃ cs,u = .agg cs.toArray∧rep M' cs r13)) za7 (Zu rfl) hS (qwj hS.agree hr12)) ?_)
 intro u12 M12 w11 hx12 hu12 hS
 obtain ⟨c12,hq12,f12⟩:=hu12
 subst hq12
 replace hcx1:=Rep.mono hx12.1 hcx1
 replace hkx1_6:=Zn hx12.1 hkx1_6
 replace zb8:=Rep.mono hx12.1 zb8
 replace hE:=Qd hE hx12
 obtain ⟨d16,hd15,hz⟩:=Qb hz
 refine Qs (Q8 0 3 hS rfl zb8 rfl rfl f12 rfl rfl (Lf (rr zb8) f12) hd15 ?_)
 intro cs15 w14 hb15 ha15 hs15 hS
 refine Qf (Qa ?_)
 cases hz
 exact Q4 (Zb (Qq (Jq (j:=0) rfl rfl (by rw [Rep.len hb15];exact Kn) hS rfl ⟨_,M12,_,rfl,hE,(hS.sel (H':=[.box bx1 cx1 90,.stk ux1_6 9 1 xsx1_6]) [2,3] (by decide) rfl),cs15,cx1,ux1_6,xsx1_6,rfl,rfl,hb15,hcx1,hkx1_6,hpx1_6⟩)))
 replace hz:=Qo hz hc9
 refine Qt (Za ?_)
 refine (Qa ?_)
 refine Qh <|Qi <|Qc (Qe (.pointer (some ⟨bx1,0,none⟩)) hT_0) <|Qc (Q6 rfl) <|Qc (Qp q06 rfl) <|Qc (Qm (.int .i64 x1.acts) Yb rfl (hS.bvB 2 rfl) (GCluster.p7 (rr hcx1))) <|Qc (Zz rfl rfl) <|Qc (Q6 rfl) <|Qc (Qp q06 rfl) ?_
 obtain ⟨d19,hd18,hz⟩:=Qb hz
 refine Qs (Q8 2 1 hS rfl hcx1 rfl rfl (ri (IntKind.wrap .i64 (x1.acts+1)):rep M _ _) rfl rfl (GCluster.u7 (rr hcx1) (Lf (GCluster.p7 (rr hcx1)) (ri (IntKind.wrap .i64 (x1.acts+1)):rep M _ _))) hd18 ?_)
 intro cs18 w17 hb18 ha18 hs18 hS
 have hp20:=(ha18 (by omega)).trans hpx1_6
 refine Qf (Qa ?_)
 refine Q0 (fun T' w' => ∃ M22 cs24 d25 cs26 d27 v28 xs29 l30,Mm.ext w.heap.size (qai [.box bx1 cx1 90,.stk ux1_6 9 1 xsx1_6]) M M22∧St w (qai [.box bx1 cx1 90,.stk ux1_6 9 1 xsx1_6]) M22 [.box b8 cs24 40,.box b6 cx4 43,.box bx1 cs26 90,.stk v28 9 1 xs29] w'∧rep M22 cs24 d25∧rep M22 cs26 d27∧skr M22 v28 xs29 l30∧sl cs26 (0+1993) 1=[v28]∧T' 4 = .pointer (some ⟨b8,0,none⟩)∧T' 5=evT (fun _=>undef) (.func 46)∧qwk fu d25 d27 l30=some r) ?_ ?_
 have hF41:=Qg w.heap.size (qai [.box bx1 cx1 90,.stk ux1_6 9 1 xsx1_6]) M
 refine Qh <|Qi <|Qc (Qp qop rfl) <|Qc (Qm (.int .i64 x4.kind) Yb rfl (hS.bvB 1 rfl) (Jg (rr hcx4))) ?_
 refine Qf (Qa ?_)
 refine Qv <|Qh <|Qi <|Qc (Yd rfl rfl) <|Qc (Qj (.bool (x4.kind==1)) rfl) ?_
 refine Qf (Qa ?_)
 refine Qr rfl (fun hc42 => ?_) (fun hc42 => ?_)
 replace hz:=Qn hz hc42
 refine Qh <|Qi <|Qc (Qe (.pointer (some ⟨bx1,0,none⟩)) hT_0) <|Qc (Qp q8f rfl) ?_
 obtain ⟨v43,ev43,hv43⟩:=(GAct.p3 (rr hcx4))
 refine Qc (Qm v43 Vp rfl (hS.bvB 1 rfl) ev43) ?_
 obtain ⟨r46,hr45,hz⟩:=Qb hz
 refine Qs (Zl (vs:=[.pointer (some ⟨bx1,0,none⟩),v43]) (L:=[.box bx1 cs18 90,.stk ux1_6 9 1 xsx1_6]) (R:=[.box b8 (Zr.zc GReply) 40,.box b6 cx4 43]) (rv:=(fun M' u L' => ∃ c0 k0 u1 x1,u = .agg c0.toArray∧L'=[.box bx1 k0 90,.stk u1 9 1 x1]∧rep M' c0 r46.1∧rep M' k0 r46.2.1∧skr M' u1 x1 r46.2.2∧sl k0 1993 1=[u1])) cb47 (Z8 rfl rfl) hS (hS.sel [2,3,0,1] (by decide) rfl) (fun hS=>qy8 hS hb18 hkx1_6 hp20 hv43 hr45) ?_)
 rintro u45 M45 w44 L45 hx45 ⟨c0_45,k0_45,u1_45,x1_45,rfl,hL45,f45_0,f45_1,f45_2,f45_3⟩ hS
 replace hS:=hS _ hL45
 replace zb8:=Rep.mono hx45.1 zb8
 replace hE:=Qd hE hx45
 obtain ⟨d49,hd48,hz⟩:=Qb hz
 refine Qs (Q8 2 3 hS rfl zb8 rfl rfl f45_0 rfl rfl (Lf (rr zb8) f45_0) hd48 ?_)
 intro cs48 w47 hb48 ha48 hs48 hS
 refine Qf (Qa ?_)
 cases hz
 exact Q4 (Zb (Qq (Jq (j:=2) rfl rfl (by rw [Rep.len hb48];exact Kn) hS rfl ⟨_,M45,_,rfl,hE,(hS.sel (H':=[.box bx1 k0_45 90,.stk u1_45 9 1 x1_45]) [0,1] (by decide) rfl),cs48,k0_45,u1_45,x1_45,rfl,rfl,hb48,f45_1,f45_2,f45_3⟩)))
 replace hz:=Qo hz hc42
 refine Q0 (fun T' w' => ∃ M51 c53,Mm.ext w.heap.size (qai [.box bx1 cx1 90,.stk ux1_6 9 1 xsx1_6]) M M51∧St w (qai [.box bx1 cx1 90,.stk ux1_6 9 1 xsx1_6]) M51 [.box b8 (Zr.zc GReply) 40,.box b6 cx4 43,.box bx1 cs18 90,.stk ux1_6 9 1 xsx1_6] w'∧T' 0 = .pointer (some ⟨bx1,0,none⟩)∧T' 3 = .pointer (some ⟨b6,0,none⟩)∧T' 4 = .pointer (some ⟨b8,0,none⟩)∧T' 5=evT (fun _=>undef) (.func 46)∧T' 27 = .int .i64 x4.kind∧T' 34 = .bool c53∧qi9 fu l3 x4 d19 c53=some r) ?_ ?_
 have hF126:=Qg w.heap.size (qai [.box bx1 cx1 90,.stk ux1_6 9 1 xsx1_6]) M
 refine Qh <|Qi <|Qc (Yd rfl rfl) <|Qc (Qj (.bool (x4.kind==2)) rfl) ?_
 refine Qf (Qa ?_)
 refine Qr rfl (fun hc127 => ?_) (fun hc127 => ?_)
 replace hz:=Qn hz hc127
 refine Qt (Qa ?_)
 exact ⟨M,(x4.kind==2),hF126,hS,hT_0,rfl,rfl,rfl,rfl,rfl,hz⟩
 replace hz:=Qo hz hc127
 refine Qh <|Qi <|Qc (Yd rfl rfl) <|Qc (Qj (.bool (x4.kind==3)) rfl) ?_
 refine Qf (Qa ?_)
 refine Qr rfl (fun hc128 => ?_) (fun hc128 => ?_)
 replace hz:=Qn hz hc128
 refine Qt (Qa ?_)
 exact ⟨M,(x4.kind==3),hF126,hS,hT_0,rfl,rfl,rfl,rfl,rfl,hz⟩
 replace hz:=Qo hz hc128
 refine Qi <|Qc (Yd rfl rfl) <|Qc (Qj (.bool (x4.kind==4)) rfl) ?_
 refine Qf (Qa ?_)
 exact ⟨M,(x4.kind==4),hF126,hS,hT_0,rfl,rfl,rfl,rfl,rfl,hz⟩
 rintro T52 w50 ⟨M51,c53,hx54,hS,hT52_0,hT52_3,hT52_4,hT52_5,hT52_27,hT52_34,hz⟩
 replace hkx1_6:=Zn hx54.1 hkx1_6
 replace hcx4:=Rep.mono hx54.1 hcx4
 replace zb8:=Rep.mono hx54.1 zb8
 replace hb18:=Rep.mono hx54.1 hb18
 replace hE:=Qd hE hx54
 replace hF41:=Qd hF41 hx54
 rw [qi9] at hz
 refine Qr hT52_34 (fun hc55 => ?_) (fun hc55 => ?_)
 replace hz:=Qn hz hc55
 refine Qh <|Qi <|Qc (Qe (.pointer (some ⟨bx1,0,none⟩)) hT52_0) ?_
 have ha56:=(rr hcx4)
 refine Qc (Zf q8d hT52_3 (hS.bvB 1 rfl) (Rep.len ha56)) ?_
 obtain ⟨r59,hr58,hz⟩:=Qb hz
 refine Qs (Zl (vs:=[.pointer (some ⟨bx1,0,none⟩),.agg (sl cx4 (0) 4).toArray]) (L:=[.box bx1 cs18 90,.stk ux1_6 9 1 xsx1_6]) (R:=[.box b8 (Zr.zc GReply) 40,.box b6 cx4 43]) (rv:=(fun M' u L' => ∃ c0 k0 u1 x1,u = .agg c0.toArray∧L'=[.box bx1 k0 90,.stk u1 9 1 x1]∧rep M' c0 r59.1∧rep M' k0 r59.2.1∧skr M' u1 x1 r59.2.2∧sl k0 1993 1=[u1])) cb48 (Z8 rfl rfl) hS (hS.sel [2,3,0,1] (by decide) rfl) (fun hS=>qy9 hS hb18 hkx1_6 hp20 ha56 hr58) ?_)
 rintro u58 M58 w57 L58 hx58 ⟨c0_58,k0_58,u1_58,x1_58,rfl,hL58,f58_0,f58_1,f58_2,f58_3⟩ hS
 replace hS:=hS _ hL58
 replace zb8:=Rep.mono hx58.1 zb8
 replace hE:=Qd hE hx58
 obtain ⟨d62,hd61,hz⟩:=Qb hz
 refine Qs (Q8 2 3 hS rfl zb8 hT52_4 rfl f58_0 rfl rfl (Lf (rr zb8) f58_0) hd61 ?_)
 intro cs61 w60 hb61 ha61 hs61 hS
 refine Qf (Qa ?_)
 cases hz
 exact Q4 (Zb (Qq (Jq (j:=2) rfl hT52_4 (by rw [Rep.len hb61];exact Kn) hS rfl ⟨_,M58,_,rfl,hE,(hS.sel (H':=[.box bx1 k0_58 90,.stk u1_58 9 1 x1_58]) [0,1] (by decide) rfl),cs61,k0_58,u1_58,x1_58,rfl,rfl,hb61,f58_1,f58_2,f58_3⟩)))
 replace hz:=Qo hz hc55
 refine Qh <|Qi <|Qc (Yd hT52_27 rfl) <|Qc (Qj (.bool (x4.kind==5)) rfl) ?_
 refine Qf (Qa ?_)
 refine Qr rfl (fun hc63 => ?_) (fun hc63 => ?_)
 replace hz:=Qn hz hc63
 refine Q0 (fun T' w' => ∃ M65 cs67 d68,Mm.ext w.heap.size (qai [.box bx1 cx1 90,.stk ux1_6 9 1 xsx1_6]) M51 M65∧St w (qai [.box bx1 cx1 90,.stk ux1_6 9 1 xsx1_6]) M65 [.box b8 cs67 40,.box b6 cx4 43,.box bx1 cs18 90,.stk ux1_6 9 1 xsx1_6] w'∧rep M65 cs67 d68∧T' 0 = .pointer (some ⟨bx1,0,none⟩)∧T' 3 = .pointer (some ⟨b6,0,none⟩)∧T' 4 = .pointer (some ⟨b8,0,none⟩)∧qpa fu l3 x4 d19 d68=some r) ?_ ?_
 have hF91:=Qg w.heap.size (qai [.box bx1 cx1 90,.stk ux1_6 9 1 xsx1_6]) M51
 refine Q0 (fun T' w' => ∃ M93 c95,Mm.ext w.heap.size (qai [.box bx1 cx1 90,.stk ux1_6 9 1 xsx1_6]) M51 M93∧St w (qai [.box bx1 cx1 90,.stk ux1_6 9 1 xsx1_6]) M93 [.box b8 (Zr.zc GReply) 40,.box b6 cx4 43,.box bx1 cs18 90,.stk ux1_6 9 1 xsx1_6] w'∧T' 0 = .pointer (some ⟨bx1,0,none⟩)∧T' 3 = .pointer (some ⟨b6,0,none⟩)∧T' 4 = .pointer (some ⟨b8,0,none⟩)∧T' 5=evT (fun _=>undef) (.func 46)∧T' 54 = .bool c95∧qpb fu l3 x4 d19 c95=some r) ?_ ?_
 have hF105:=Qg w.heap.size (qai [.box bx1 cx1 90,.stk ux1_6 9 1 xsx1_6]) M51
 refine Yu [.box b6 cx4 43,.box bx1 cs18 90] [] Ya hS fun w106 hS hG107 hR108=>wy 0 rfl (Qp Ko hT52_3) (fun _=>hR108) <|Y8 1 rfl (Qm (.int .i64 x4.n) Yb rfl (Yp 0 rfl) (V0 (rr hcx4))) hR108 <|wy 2 rfl (Zv rfl rfl) (fun _=>hR108) <|wy 3 rfl (Qe (.bool (decide (x4.n<0))) rfl) (fun _=>hR108) ?_
 rcases ic hz with ⟨hc109,hz⟩ | ⟨hc109,hz⟩<;>rw [hc109]
 refine Yj 4 (j:=3) rfl rfl rfl rfl (fun _=>hR108) <|Yj 5 (j:=3) rfl rfl rfl rfl (fun _=>hR108) <|Yj 6 (j:=3) rfl rfl rfl rfl (fun _=>hR108) <|Yj 7 (j:=3) rfl rfl rfl rfl (fun _=>hR108) <|Yj 8 (j:=3) rfl rfl rfl rfl (fun _=>hR108) <|Yj 9 (j:=3) rfl rfl rfl rfl (fun _=>hR108) <|Yj 10 (j:=3) rfl rfl rfl rfl (fun _=>hR108) <|wy 11 rfl (Zy (.bool true) rfl rfl) (fun _=>hR108) ?_
 refine wd (Qa ?_)
 exact ⟨M51,true,hF105,hS,hT52_0,hT52_3,hT52_4,hT52_5,rfl,hz⟩
 refine V4 4 rfl rfl rfl (Qp Ko hT52_3) (fun _=>hR108) <|K6 5 rfl rfl rfl (Qm (.int .i64 x4.n) Yb rfl (Yp 0 rfl) (V0 (rr hcx4))) hR108 <|V4 6 rfl rfl rfl (Qe (.pointer (some ⟨bx1,0,none⟩)) hT52_0) (fun _=>hR108) <|V4 7 rfl rfl rfl (Q6 rfl) (fun _=>hR108) <|V4 8 rfl rfl rfl (Qp qos rfl) (fun _=>hR108) <|K6 9 rfl rfl rfl (Qm (.int .i64 d19.begun) Yb rfl (Yp 1 rfl) (Vt (rr hb18))) hR108 <|V4 10 rfl rfl rfl (Vd rfl rfl) (fun _=>hR108) <|wy 11 rfl (Zi (.bool (decide (x4.n≥d19.begun))) rfl rfl) (fun _=>hR108) ?_
 refine wd (Qa ?_)
 exact ⟨M51,(decide (x4.n≥d19.begun)),hF105,hS,hT52_0,hT52_3,hT52_4,hT52_5,rfl,hz⟩
 rintro T94 w92 ⟨M93,c95,hx96,hS,hT94_0,hT94_3,hT94_4,hT94_5,hT94_54,hz⟩
 replace hkx1_6:=Zn hx96.1 hkx1_6
 replace zb8:=Rep.mono hx96.1 zb8
 replace hb18:=Rep.mono hx96.1 hb18
 replace hE:=Qd hE hx96
 replace hF91:=Qd hF91 hx96
 rw [qpb] at hz
 refine Qr hT94_54 (fun hc97 => ?_) (fun hc97 => ?_)
 replace hz:=Qn hz hc97
 refine Qh <|Qi <|Qc (Qe (evT (fun _=>undef) (.func 46)) hT94_5) ?_
 obtain ⟨r101,hr100,hz⟩:=Qb hz
 refine Qs (q34 rfl (Y0 (vs:=[.int .i64 4]) (rv:=(fun M' u => ∃ cs,u = .agg cs.toArray∧rep M' cs r101)) za7 (Zu rfl) hS (qwj hS.agree hr100)) ?_)
 intro u100 M100 w99 hx100 hu100 hS
 obtain ⟨c100,hq100,f100⟩:=hu100
 subst hq100
 replace hkx1_6:=Zn hx100.1 hkx1_6
 replace zb8:=Rep.mono hx100.1 zb8
 replace hb18:=Rep.mono hx100.1 hb18
 replace hE:=Qd hE hx100
 obtain ⟨d104,hd103,hz⟩:=Qb hz
 refine Qs (Q8 0 3 hS rfl zb8 hT94_4 rfl f100 rfl rfl (Lf (rr zb8) f100) hd103 ?_)
 intro cs103 w102 hb103 ha103 hs103 hS
 refine Qf (Qa ?_)
 cases hz
 exact Q4 (Qq (Zb (Qq (Jq (j:=0) rfl hT94_4 (by rw [Rep.len hb103];exact Kn) hS rfl ⟨_,M100,_,rfl,hE,(hS.sel (H':=[.box bx1 cs18 90,.stk ux1_6 9 1 xsx1_6]) [2,3] (by decide) rfl),cs103,cs18,ux1_6,xsx1_6,rfl,rfl,hb103,hb18,hkx1_6,hp20⟩))))
 replace hz:=Qo hz hc97
 refine Qt (Qa ?_)
 exact ⟨M93,(Zr.zc GReply),(Zr.zd:GReply),hF91,hS,zb8,hT94_0,hT94_3,hT94_4,hz⟩
 rintro T66 w64 ⟨M65,cs67,d68,hx69,hS,hb67,hT66_0,hT66_3,hT66_4,hz⟩
 replace hcx4:=Rep.mono hx69.1 hcx4
 replace hb18:=Rep.mono hx69.1 hb18
 rw [qpa] at hz
 refine Qh <|Yu [.box b6 cx4 43,.box bx1 cs18 90] [11] Ya hS fun w70 hS hG71 hR72=>wy 0 rfl (Qe (.pointer (some ⟨bx1,0,none⟩)) hT66_0) (fun _=>hR72) <|wy 1 rfl (Qe (.pointer (some ⟨bx1,0,none⟩)) hT66_0) (fun _=>hR72) <|wy 2 rfl (Qp Ko hT66_3) (fun _=>hR72) <|wlC (inL [6,7,10,11]) 3 rfl (Qm (.int .i64 x4.n) Yb rfl (Yp 0 rfl) (V0 (rr hcx4))) hR72 <|wy 4 rfl (Q6 rfl) (fun _=>hR72) <|wy 5 rfl (Qp qqx rfl) (fun _=>hR72) ?_
 obtain ⟨u73,hx74,hz⟩:=Qb hz
 obtain ⟨hx74a,hx74b⟩:=Qw hx74
 refine wy 6 rfl (Ze q7c rfl rfl hx74a hx74b) (fun _=>hR72) ?_
 obtain ⟨x75,hx76,hz⟩:=Qb hz
 have ha77:=(vp (k:=24) rfl rfl (Ve (rr hb18)) hx76)
 refine wlC (inL [10,11]) 7 rfl (Zf Vc rfl (Yp 1 rfl) (Rep.len ha77)) hR72 <|wy 8 rfl (Qp Ko hT66_3) (fun _=>hR72) <|wlC (inL [10,11]) 9 rfl (Qm (.int .i64 x4.n) Yb rfl (Yp 0 rfl) (V0 (rr hcx4))) hR72 ?_
 obtain ⟨r80,hr79,hz⟩:=Qb hz
 refine w1 10 rfl (Y0 (vs:=[.agg (sl cs18 (0+1224+Int.toNat x4.n*24) 24).toArray,.int .i64 x4.n]) (rv:=(fun M' u=>repL M' u r80)) za8 (Z8 rfl rfl) hS (qr6 hS.agree ha77 hr79) ?_)
 intro u79 M79 w78 hx79 hu79 hS
 have f79:repL M79 u79 r80:=hu79
 replace hkx1_6:=Zn (hx69.1.trans hx79.1) hkx1_6
 replace hb18:=Rep.mono hx79.1 hb18
 replace hG71:=Qd hG71 hx79
 refine Yq hS hG71 fun hR81 => ?_
 obtain ⟨r84,hr83,hz⟩:=Qb hz
 refine w1 11 rfl (Zl (vs:=[.pointer (some ⟨bx1,0,none⟩),u79]) (L:=[.box bx1 cs18 90,.stk ux1_6 9 1 xsx1_6]) (R:=[.box b8 cs67 40,.box b6 cx4 43]) (rv:=(fun M' u L' => ∃ k0 u1 x1,u = .tuple #[]∧L'=[.box bx1 k0 90,.stk u1 9 1 x1]∧rep M' k0 r84.1∧skr M' u1 x1 r84.2∧sl k0 1993 1=[u1])) q9n (Z8 rfl rfl) hS (hS.sel [2,3,0,1] (by decide) rfl) (fun hS=>qls hS hb18 hkx1_6 hp20 f79 hr83) ?_)
 rintro u83 M83 w82 L83 hx83 ⟨k0_83,u1_83,x1_83,rfl,hL83,f83_0,f83_1,f83_2⟩ hS
 replace hS:=hS _ hL83
 replace hcx4:=Rep.mono (hx79.1.trans hx83.1) hcx4
 refine ⟨nB,?_⟩
 refine wd (Qa ?_)
 refine Qh <|Qi <|Qc (Qe (.pointer (some ⟨bx1,0,none⟩)) hT66_0) <|Qc (Qp Ko hT66_3) <|Qc (Qm (.int .i64 x4.n) Yb rfl (hS.bvB 3 rfl) (V0 (rr hcx4))) ?_
 obtain ⟨r87,hr86,hz⟩:=Qb hz
 refine Qs (Zl (vs:=[.pointer (some ⟨bx1,0,none⟩),.int .i64 x4.n]) (L:=[.box bx1 k0_83 90]) (R:=[.stk u1_83 9 1 x1_83,.box b8 cs67 40,.box b6 cx4 43]) (rv:=(fun M' u L' => ∃ c0,u = .agg c0.toArray∧L'=[.box bx1 k0_83 90]∧rep M' c0 r87)) cb51 (Z8 rfl rfl) hS (hS.sel [0,1,2,3] (by decide) rfl) (fun hS=>qt4 hS f83_0 hr86) ?_)
 rintro u86 M86 w85 L86 hx86 ⟨c0_86,rfl,hL86,f86_0⟩ hS
 replace hS:=hS _ hL86
 replace hb67:=Rep.mono (hx79.1.trans (hx83.1.trans hx86.1)) hb67
 replace f83_0:=Rep.mono hx86.1 f83_0
 replace f83_1:=Zn hx86.1 f83_1
 replace hE:=Qd hE (hx69.trans (hx79.trans (hx83.trans hx86)))
 obtain ⟨d90,hd89,hz⟩:=Qb hz
 refine Qs (Q8 2 3 hS rfl hb67 hT66_4 rfl f86_0 rfl rfl (Lf (rr hb67) f86_0) hd89 ?_)
 intro cs89 w88 hb89 ha89 hs89 hS
 refine Qf (Qa ?_)
 cases hz
 exact Q4 (Zb (Qq (Jq (j:=2) rfl hT66_4 (by rw [Rep.len hb89];exact Kn) hS rfl ⟨_,M86,_,rfl,hE,(hS.sel (H':=[.box bx1 k0_83 90,.stk u1_83 9 1 x1_83]) [0,1] (by decide) rfl),cs89,k0_83,u1_83,x1_83,rfl,rfl,hb89,f83_0,f83_1,f83_2⟩)))
 replace hz:=Qo hz hc63
 refine Q0 (fun T' w' => ∃ M111 c113,Mm.ext w.heap.size (qai [.box bx1 cx1 90,.stk ux1_6 9 1 xsx1_6]) M51 M111∧St w (qai [.box bx1 cx1 90,.stk ux1_6 9 1 xsx1_6]) M111 [.box b8 (Zr.zc GReply) 40,.box b6 cx4 43,.box bx1 cs18 90,.stk ux1_6 9 1 xsx1_6] w'∧T' 0 = .pointer (some ⟨bx1,0,none⟩)∧T' 3 = .pointer (some ⟨b6,0,none⟩)∧T' 4 = .pointer (some ⟨b8,0,none⟩)∧T' 5=evT (fun _=>undef) (.func 46)∧T' 73 = .bool c113∧qkx fu l3 x4 d19 c113=some r) ?_ ?_
 have hF123:=Qg w.heap.size (qai [.box bx1 cx1 90,.stk ux1_6 9 1 xsx1_6]) M51
 refine Qh <|Qi <|Qc (Yd hT52_27 rfl) <|Qc (Qj (.bool (x4.kind==6)) rfl) ?_
 refine Qf (Qa ?_)
 refine Qr rfl (fun hc124 => ?_) (fun hc124 => ?_)
 replace hz:=Qn hz hc124
 refine Qt (Qa ?_)
 exact ⟨M51,(x4.kind==6),hF123,hS,hT52_0,hT52_3,hT52_4,hT52_5,rfl,hz⟩
 replace hz:=Qo hz hc124
 refine Qh <|Qi <|Qc (Yd hT52_27 rfl) <|Qc (Qj (.bool (x4.kind==7)) rfl) ?_
 refine Qf (Qa ?_)
 refine Qr rfl (fun hc125 => ?_) (fun hc125 => ?_)
 replace hz:=Qn hz hc125
 refine Qt (Qa ?_)
 exact ⟨M51,(x4.kind==7),hF123,hS,hT52_0,hT52_3,hT52_4,hT52_5,rfl,hz⟩
 replace hz:=Qo hz hc125
 refine Qi <|Qc (Yd hT52_27 rfl) <|Qc (Qj (.bool (x4.kind==8)) rfl) ?_
 refine Qf (Qa ?_)
 exact ⟨M51,(x4.kind==8),hF123,hS,hT52_0,hT52_3,hT52_4,hT52_5,rfl,hz⟩
 rintro T112 w110 ⟨M111,c113,hx114,hS,hT112_0,hT112_3,hT112_4,hT112_5,hT112_73,hz⟩
 replace hkx1_6:=Zn hx114.1 hkx1_6
 replace hcx4:=Rep.mono hx114.1 hcx4
 replace zb8:=Rep.mono hx114.1 zb8
 replace hb18:=Rep.mono hx114.1 hb18
 replace hE:=Qd hE hx114
 replace hF41:=Qd hF41 hx114
 rw [qkx] at hz
 refine Qr hT112_73 (fun hc115 => ?_) (fun hc115 => ?_)
 replace hz:=Qn hz hc115
 refine Qh <|Qi <|Qc (Qe (.pointer (some ⟨bx1,0,none⟩)) hT112_0) ?_
 have ha116:=(rr hcx4)
 refine Qc (Zf q8d hT112_3 (hS.bvB 1 rfl) (Rep.len ha116)) ?_
 obtain ⟨r119,hr118,hz⟩:=Qb hz
 refine Qs (Zl (vs:=[.pointer (some ⟨bx1,0,none⟩),.agg (sl cx4 (0) 4).toArray]) (L:=[.box bx1 cs18 90,.stk ux1_6 9 1 xsx1_6]) (R:=[.box b8 (Zr.zc GReply) 40,.box b6 cx4 43]) (rv:=(fun M' u L' => ∃ c0 k0 u1 x1,u = .agg c0.toArray∧L'=[.box bx1 k0 90,.stk u1 9 1 x1]∧rep M' c0 r119.1∧rep M' k0 r119.2.1∧skr M' u1 x1 r119.2.2∧sl k0 1993 1=[u1])) cb52 (Z8 rfl rfl) hS (hS.sel [2,3,0,1] (by decide) rfl) (fun hS=>qza hS hb18 hkx1_6 hp20 ha116 hr118) ?_)
 rintro u118 M118 w117 L118 hx118 ⟨c0_118,k0_118,u1_118,x1_118,rfl,hL118,f118_0,f118_1,f118_2,f118_3⟩ hS
 replace hS:=hS _ hL118
 replace zb8:=Rep.mono hx118.1 zb8
 replace hE:=Qd hE hx118
 obtain ⟨d122,hd121,hz⟩:=Qb hz
 refine Qs (Q8 2 3 hS rfl zb8 hT112_4 rfl f118_0 rfl rfl (Lf (rr zb8) f118_0) hd121 ?_)
 intro cs121 w120 hb121 ha121 hs121 hS
 refine Qf (Qa ?_)
 cases hz
 exact Q4 (Zb (Qq (Jq (j:=2) rfl hT112_4 (by rw [Rep.len hb121];exact Kn) hS rfl ⟨_,M118,_,rfl,hE,(hS.sel (H':=[.box bx1 k0_118 90,.stk u1_118 9 1 x1_118]) [0,1] (by decide) rfl),cs121,k0_118,u1_118,x1_118,rfl,rfl,hb121,f118_1,f118_2,f118_3⟩)))
 replace hz:=Qo hz hc115
 refine Qt (Za ?_)
 refine (Qa ?_)
 exact ⟨M111,(Zr.zc GReply),(Zr.zd:GReply),cs18,d19,ux1_6,xsx1_6,l3,hF41,hS,zb8,hb18,hkx1_6,hp20,hT112_4,hT112_5,hz⟩
 rintro T23 w21 ⟨M22,cs24,d25,cs26,d27,v28,xs29,l30,hx33,hS,hb24,hb26,hk31,hp32,hT23_4,hT23_5,hz⟩
 rw [qwk] at hz
 refine Qh <|Qi <|Qc (Qe (evT (fun _=>undef) (.func 46)) hT23_5) ?_
 obtain ⟨r37,hr36,hz⟩:=Qb hz
 refine Qs (q34 rfl (Y0 (vs:=[.int .i64 3]) (rv:=(fun M' u => ∃ cs,u = .agg cs.toArray∧rep M' cs r37)) za7 (Zu rfl) hS (qwj hS.agree hr36)) ?_)
 intro u36 M36 w35 hx36 hu36 hS
 obtain ⟨c36,hq36,f36⟩:=hu36
 subst hq36
 replace hb24:=Rep.mono hx36.1 hb24
 replace hb26:=Rep.mono hx36.1 hb26
 replace hk31:=Zn hx36.1 hk31
 replace hE:=Qd hE (hx33.trans hx36)
 obtain ⟨d40,hd39,hz⟩:=Qb hz
 refine Qs (Q8 0 3 hS rfl hb24 hT23_4 rfl f36 rfl rfl (Lf (rr hb24) f36) hd39 ?_)
 intro cs39 w38 hb39 ha39 hs39 hS
 refine Qf (Qa ?_)
 cases hz
 exact Q4 (Jq (j:=0) rfl hT23_4 (by rw [Rep.len hb39];exact Kn) hS rfl ⟨_,M36,_,rfl,hE,(hS.sel (H':=[.box bx1 cs26 90,.stk v28 9 1 xs29]) [2,3] (by decide) rfl),cs39,cs26,v28,xs29,rfl,rfl,hb39,hb26,hk31,hp32⟩)
def qt6 (fu:Nat):Option (GCluster × (List ByteArray)) :=
 (some ({ nodes:=Zr.zd,logs:=Zr.zd,down:=Zr.zd,tear:=Zr.zd,cases:=Zr.zd,begun:=Zr.zd,net:=Zr.zd,acts:=Zr.zd }:GCluster)).bind fun d2 =>
 some (d2,([]:List ByteArray))
theorem qxw {M:Mm} {w:World} {fu:Nat} {r:GCluster × (List ByteArray)} (hA:Agree M w)  (hz:qt6 fu=some r) :
    Calls Try.prog 41 #[] w (qcv M w [] (fun M' u L' => ∃ bP0 kP0 uP6 xP6,u = .pointer (some ⟨bP0,0,none⟩)∧L'=[.box bP0 kP0 90,.stk uP6 9 1 xP6]∧rep M' kP0 r.1∧skr M' uP6 xP6 r.2∧sl kP0 1993 1=[uP6])):=by
 refine Zh Try.func41 rfl 3 rfl rfl (by kernel_rfl) fun T hT => ?_
 clear hT
 have hE:=Qg w.heap.size (qai []) M
 have hS:St w (qai []) M [] w:=Zx hA
 rw [qt6] at hz
 refine Qh <|Qi <|Qc (Qj (.pointer none) rfl) ?_
 refine Qf (Qa ?_)
 refine Qh <|Qi ?_
 obtain ⟨d2,hd1,hz⟩:=Qb hz
 obtain ⟨cs1,hf1,ha1⟩ : ∃ cs,qbj (([(0,1206),(1206,6),(1212,6),(1218,6),(1224,768),(1992,1),(1993,1),(1994,1)]:List (Nat × Nat))[·]?) (Zr.zc GCluster) []=some cs∧rep M cs d2:=⟨_,Z2,Z3 (x:=({ nodes:=Zr.zd,logs:=Zr.zd,down:=Zr.zd,tear:=Zr.zd,cases:=Zr.zd,begun:=Zr.zd,net:=Zr.zd,acts:=Zr.zd }:GCluster)) (Zr.zr:rep M (Zr.zc GCluster) (Zr.zd:GCluster)) hd1⟩
 have hp3:sl cs1 1993 1=[.slice none 0 0]:=(Yw hf1 (by rfl)).trans (by rfl)
 replace hS:=hS.nilStk 9 1
 have hk5:skr M (.slice none 0 0) [] ([]:List ByteArray):=q1d
 refine Qc (Zt [] tb90 Vb hf1) ?_
 refine Qs (Yo (v := .agg cs1.toArray) (cs:=cs1) rfl rfl hS ?_)
 intro b7 w6 hb7 hS
 refine Qc (Qj (.pointer (some ⟨b7,0,none⟩)) rfl) ?_
 refine Qf (Qa ?_)
 cases hz
 exact Q4 (Yg rfl rfl ⟨_,M,_,rfl,hE,(hS.sel (H':=[.box b7 cs1 90,.stk (.slice none 0 0) 9 1 []]) [0,1] (by decide) rfl),b7,cs1,(.slice none 0 0),[],rfl,rfl,ha1,hk5,hp3⟩)
end Go.Proofs.Yteilffoclpgijaa
namespace Go.Proofs.Yteilffoclpgijaa
set_option maxHeartbeats 4000000
set_option maxRecDepth 100000
open Go.RowKit
open Rep (rep)
set_option linter.unusedVariables false
abbrev Jh := @GAct.w0
def qjx (d41:GCluster) (l44:List ByteArray) (c47:Bool):Option Bool :=
 some c47
def qt7 (fu:Nat):Option Bool :=
 (qt6 fu).bind fun r3 =>
 (some ({ kind:=2,key:=1,n:=4 }:GOp)).bind fun d6 =>
 (some ({ kind:=1,n:=Zr.zd,m:=Zr.zd,ops:=([d6]:List GOp) }:GAct)).bind fun d10 =>
 (qt5 fu r3.1 r3.2 d10).bind fun r13 =>
 (some r13.1).bind fun d18 =>
 (some ({ kind:=2,n:=1,m:=Zr.zd,ops:=Zr.zd }:GAct)).bind fun d20 =>
 (qt5 fu r13.2.1 r13.2.2 d20).bind fun r23 =>
 (some r23.1).bind fun d28 =>
 (qi5 fu r23.2.1 4).bind fun r31 =>
 (some r31.1).bind fun d36 =>
 (bif d18.code==0 then
 (bif d28.code==0 then
 (qo8 fu r23.2.1 r23.2.2).bind fun r54 =>
 (bif (r54.1.length:Int)==3 then
 (qa7 d36.entries 0).bind fun x57 =>
 qjx r23.2.1 r54.2 (x57.state==1)
 else
 qjx r23.2.1 r54.2 false)
 else
 qjx r23.2.1 r23.2.2 false)
 else
 qjx r23.2.1 r23.2.2 false)
theorem q4h {M:Mm} {w:World} {fu:Nat} {r:Bool} (hA:Agree M w)  (hz:qt7 fu=some r) :
    Calls Try.prog 33 #[] w (qc1 w (.bool r)):=by
 refine Zh Try.func33 rfl 43 rfl rfl (by kernel_rfl) fun T hT => ?_
 clear hT
 have hE:=Qg w.heap.size noX M
 have hS:St w noX M [] w:=Zx hA
 rw [qt7] at hz
 refine Qh <|Qi <|Qc (Qj (.bool false) rfl) ?_
 refine Qf (Qa ?_)
 refine Qh <|Qi ?_
 obtain ⟨r3,hr2,hz⟩:=Qb hz
 refine Qs (Zl (vs:=[]) (L:=[]) (R:=[]) (rv:=(fun M' u L' => ∃ bP0 kP0 uP6 xP6,u = .pointer (some ⟨bP0,0,none⟩)∧L'=[.box bP0 kP0 90,.stk uP6 9 1 xP6]∧rep M' kP0 r3.1∧skr M' uP6 xP6 r3.2∧sl kP0 1993 1=[uP6])) cb41 q5s hS (hS.sel [] (by decide) rfl) (fun hS=>qxw hS.agree hr2) ?_)
 rintro u2 M2 w1 L2 hx2 ⟨bP0_2,kP0_2,uP6_2,xP6_2,rfl,hL2,f2_0,f2_1,f2_2⟩ hS
 replace hS:=hS _ hL2
 refine Qc (Qj (.pointer (some ⟨bP0_2,0,none⟩)) rfl) ?_
 refine Qf (Qa ?_)
 refine Qh <|Qh <|Qi <|Qc (Qe (.pointer (some ⟨bP0_2,0,none⟩)) rfl) <|Qc (qol rfl rfl Vm) ?_
 refine Qf (Qa ?_)
 refine qrx rfl ?_
 refine Qt (Qa ?_)
 refine Qh <|Qi <|Qc (Qe (.pointer (some ⟨bP0_2,0,none⟩)) rfl) ?_
 have k5_0:=GOp.w0 (Zr.zr:rep M2 (Zr.zc GOp) (Zr.zd:GOp)) (ri 2:rep M2 _ _)
 have k5_1:=GOp.w1 k5_0 (ri 1:rep M2 _ _)
 have k5_2:=GOp.w2 k5_1 (ri 4:rep M2 _ _)
 obtain ⟨d6,hd5,hz⟩:=Qb hz
 obtain ⟨cs5,hf5,ha5⟩ : ∃ cs,qbj (([(0,1),(1,1),(2,1)]:List (Nat × Nat))[·]?) (Zr.zc GOp) [(0,.int .i64 2),(1,.int .i64 1),(2,.int .i64 4)]=some cs∧rep M2 cs d6:=⟨_,(Q9 (Zr.zr:rep M2 (Zr.zc GOp) (Zr.zd:GOp)) rfl rfl (Rep.len (ri 2:rep M2 _ _)) (by decide) (Q9 k5_0 rfl rfl (Rep.len (ri 1:rep M2 _ _)) (by decide) (Q9 k5_1 rfl rfl (Rep.len (ri 4:rep M2 _ _)) (by decide) Z2))),Z3 (x:=({ kind:=2,key:=1,n:=4 }:GOp)) k5_2 hd5⟩
 refine Qc (Zt [(0,.int .i64 2),(1,.int .i64 1),(2,.int .i64 4)] tb65 (Ym rfl (Ym rfl (Ym rfl Vb))) hf5) ?_
 refine Qs (Z0 (α := GOp) (l:=([d6]:List GOp)) [.agg cs5.toArray] tl27 (Ym rfl Vb) rfl rfl (by decide) (by decide) (by decide) hS (K3 ha5 Jk) ?_)
 intro v8 M8 w7 hx8 hv8 hS
 replace f2_0:=Rep.mono hx8.1 f2_0
 replace f2_1:=Zn hx8.1 f2_1
 have k9_0:=Jh (Zr.zr:rep M8 (Zr.zc GAct) (Zr.zd:GAct)) (ri 1:rep M8 _ _)
 have k9_1:=GAct.w3 k9_0 (Q1 hv8)
 obtain ⟨d10,hd9,hz⟩:=Qb hz
 obtain ⟨cs9,hf9,ha9⟩ : ∃ cs,qbj (([(0,1),(1,1),(2,1),(3,1)]:List (Nat × Nat))[·]?) (Zr.zc GAct) [(0,.int .i64 1),(3,v8)]=some cs∧rep M8 cs d10:=⟨_,(Q9 (Zr.zr:rep M8 (Zr.zc GAct) (Zr.zd:GAct)) rfl rfl (Rep.len (ri 1:rep M8 _ _)) (by decide) (Q9 k9_0 rfl (Zc hv8) (Rep.len (Q1 hv8)) (by decide) Z2)),Z3 (x:=({ kind:=1,n:=Zr.zd,m:=Zr.zd,ops:=([d6]:List GOp) }:GAct)) k9_1 hd9⟩
 refine Qc (Zt [(0,.int .i64 1),(3,v8)] q54 (Ym rfl (Ym rfl Vb)) hf9) ?_
 obtain ⟨r13,hr12,hz⟩:=Qb hz
 refine Qs (Zl (vs:=[.pointer (some ⟨bP0_2,0,none⟩),.agg cs9.toArray]) (L:=[.box bP0_2 kP0_2 90,.stk uP6_2 9 1 xP6_2]) (R:=[]) (rv:=(fun M' u L' => ∃ c0 k0 u1 x1,u = .agg c0.toArray∧L'=[.box bP0_2 k0 90,.stk u1 9 1 x1]∧rep M' c0 r13.1∧rep M' k0 r13.2.1∧skr M' u1 x1 r13.2.2∧sl k0 1993 1=[u1])) q9m (Z8 rfl rfl) hS (hS.sel [0,1] (by decide) rfl) (fun hS=>qsc hS f2_0 f2_1 f2_2 ha9 hr12) ?_)
 rintro u12 M12 w11 L12 hx12 ⟨c0_12,k0_12,u1_12,x1_12,rfl,hL12,f12_0,f12_1,f12_2,f12_3⟩ hS
 replace hS:=hS _ hL12
 refine Qs (Zg q3n hS ?_)
 intro b15 w14 hb15 hS
 have zb15:rep M12 (Zr.zc GReply) (Zr.zd:GReply):=Zr.zr
 obtain ⟨d18,hd17,hz⟩:=Qb hz
 refine Qs (Q8 0 3 hS rfl zb15 rfl rfl f12_0 rfl rfl (Lf (rr zb15) f12_0) hd17 ?_)
 intro cs17 w16 hb17 ha17 hs17 hS
 refine Qf (Qa ?_)
 refine Qh <|Qi <|Qc (Qe (.pointer (some ⟨bP0_2,0,none⟩)) rfl) ?_
 have k19_0:=Jh (Zr.zr:rep M12 (Zr.zc GAct) (Zr.zd:GAct)) (ri 2:rep M12 _ _)
 have k19_1:=GAct.w1 k19_0 (ri 1:rep M12 _ _)
 obtain ⟨d20,hd19,hz⟩:=Qb hz
 obtain ⟨cs19,hf19,ha19⟩ : ∃ cs,qbj (([(0,1),(1,1),(2,1),(3,1)]:List (Nat × Nat))[·]?) (Zr.zc GAct) [(0,.int .i64 2),(1,.int .i64 1)]=some cs∧rep M12 cs d20:=⟨_,(Q9 (Zr.zr:rep M12 (Zr.zc GAct) (Zr.zd:GAct)) rfl rfl (Rep.len (ri 2:rep M12 _ _)) (by decide) (Q9 k19_0 rfl rfl (Rep.len (ri 1:rep M12 _ _)) (by decide) Z2)),Z3 (x:=({ kind:=2,n:=1,m:=Zr.zd,ops:=Zr.zd }:GAct)) k19_1 hd19⟩
 refine Qc (Zt [(0,.int .i64 2),(1,.int .i64 1)] q54 (Ym rfl (Ym rfl Vb)) hf19) ?_
 obtain ⟨r23,hr22,hz⟩:=Qb hz
 refine Qs (Zl (vs:=[.pointer (some ⟨bP0_2,0,none⟩),.agg cs19.toArray]) (L:=[.box bP0_2 k0_12 90,.stk u1_12 9 1 x1_12]) (R:=[.box b15 cs17 40]) (rv:=(fun M' u L' => ∃ c0 k0 u1 x1,u = .agg c0.toArray∧L'=[.box bP0_2 k0 90,.stk u1 9 1 x1]∧rep M' c0 r23.1∧rep M' k0 r23.2.1∧skr M' u1 x1 r23.2.2∧sl k0 1993 1=[u1])) q9m (Z8 rfl rfl) hS (hS.sel [1,2,0] (by decide) rfl) (fun hS=>qsc hS f12_1 f12_2 f12_3 ha19 hr22) ?_)
 rintro u22 M22 w21 L22 hx22 ⟨c0_22,k0_22,u1_22,x1_22,rfl,hL22,f22_0,f22_1,f22_2,f22_3⟩ hS
 replace hS:=hS _ hL22
 refine Qs (Zg q3n hS ?_)
 intro b25 w24 hb25 hS
 have zb25:rep M22 (Zr.zc GReply) (Zr.zd:GReply):=Zr.zr
 obtain ⟨d28,hd27,hz⟩:=Qb hz
 refine Qs (Q8 0 3 hS rfl zb25 rfl rfl f22_0 rfl rfl (Lf (rr zb25) f22_0) hd27 ?_)
 intro cs27 w26 hb27 ha27 hs27 hS
 refine Qf (Qa ?_)
 refine Qh <|Qi <|Qc (Qe (.pointer (some ⟨bP0_2,0,none⟩)) rfl) ?_
 obtain ⟨r31,hr30,hz⟩:=Qb hz
 refine Qs (Zl (vs:=[.pointer (some ⟨bP0_2,0,none⟩),.int .i64 4]) (L:=[.box bP0_2 k0_22 90]) (R:=[.box b25 cs27 40,.stk u1_22 9 1 x1_22,.box b15 cs17 40]) (rv:=(fun M' u L' => ∃ c0,u = .tuple #[.agg c0.toArray,.bool r31.2]∧L'=[.box bP0_2 k0_22 90]∧rep M' c0 r31.1)) q9l (Z8 rfl rfl) hS (hS.sel [1,0,2,3] (by decide) rfl) (fun hS=>qlq hS f22_1 hr30) ?_)
 rintro u30 M30 w29 L30 hx30 ⟨c0_30,rfl,hL30,f30_0⟩ hS
 replace hS:=hS _ hL30
 replace hb17:=Rep.mono (hx22.1.trans hx30.1) hb17
 replace f22_1:=Rep.mono hx30.1 f22_1
 replace f22_2:=Zn hx30.1 f22_2
 replace hb27:=Rep.mono hx30.1 hb27
 refine Qc (Qe (.tuple #[.agg c0_30.toArray,.bool r31.2]) rfl) <|Qc (Q7 (v := .agg c0_30.toArray) rfl rfl) <|Qc (Q7 (v := .bool r31.2) rfl rfl) ?_
 refine Qs (Zg qxo hS ?_)
 intro b33 w32 hb33 hS
 have zb33:rep M30 (Zr.zc GNode) (Zr.zd:GNode):=Zr.zr
 obtain ⟨d36,hd35,hz⟩:=Qb hz
 refine Qs (Q8 0 201 hS rfl zb33 rfl rfl f30_0 rfl rfl (Lf (rr zb33) f30_0) hd35 ?_)
 intro cs35 w34 hb35 ha35 hs35 hS
 refine Qc (Qj (.bool r31.2) rfl) ?_
 refine Qf (Qa ?_)
 refine Q0 (fun T' w' => ∃ M38 cs40 d41 v42 xs43 l44 c47,Mm.ext w.heap.size noX M30 M38∧St w noX M38 [.box b33 cs35 34,.box bP0_2 cs40 90,.box b25 cs27 40,.stk v42 9 1 xs43,.box b15 cs17 40] w'∧rep M38 cs40 d41∧skr M38 v42 xs43 l44∧sl cs40 (0+1993) 1=[v42]∧T' 0 = .bool c47∧qjx d41 l44 c47=some r) ?_ ?_
 have hF49:=Qg w.heap.size noX M30
 refine Qi <|Qc (Qp q5a rfl) <|Qc (Qm (.int .i64 d18.code) ts38 rfl (hS.bvB 4 rfl) (GReply.p0 (rr hb17))) <|Qc (Yd rfl rfl) <|Qc (Qe (.bool (d18.code==0)) rfl) ?_
 rcases ic hz with ⟨hc50,hz⟩ | ⟨hc50,hz⟩<;>rw [hc50]
 refine Qk rfl rfl (Qp q5a rfl) <|Qk rfl rfl (Qm (.int .i64 d28.code) ts38 rfl (hS.bvB 2 rfl) (GReply.p0 (rr hb27))) <|Qk rfl rfl (Yd rfl rfl) <|Q2 2 rfl ?_
 rcases ic hz with ⟨hc51,hz⟩ | ⟨hc51,hz⟩<;>rw [hc51]
 refine Qk rfl rfl (Qe (.pointer (some ⟨bP0_2,0,none⟩)) rfl) ?_
 obtain ⟨r54,hr53,hz⟩:=Qb hz
 refine Kf rfl rfl (Zl (vs:=[.pointer (some ⟨bP0_2,0,none⟩)]) (L:=[.box bP0_2 k0_22 90,.stk u1_22 9 1 x1_22]) (R:=[.box b33 cs35 34,.box b25 cs27 40,.box b15 cs17 40]) (rv:=(fun M' u L' => ∃ v0 u1 x1,u=v0∧L'=[.box bP0_2 k0_22 90,.stk u1 9 1 x1]∧repL M' v0 r54.1∧skr M' u1 x1 r54.2∧sl k0_22 1993 1=[u1])) za5 (Zu rfl) hS (hS.sel [1,3,0,2,4] (by decide) rfl) (fun hS=>qsb hS f22_1 f22_2 f22_3 hr53) ?_)
 rintro u53 M53 w52 L53 hx53 ⟨v0_53,u1_53,x1_53,rfl,hL53,f53_0,f53_1,f53_2⟩ hS
 replace hS:=hS _ hL53
 replace f22_1:=Rep.mono hx53.1 f22_1
 replace hb35:=Rep.mono hx53.1 hb35
 replace hF49:=Qd hF49 hx53
 obtain ⟨a55,c55,hv55,_⟩:=Q3 f53_0
 refine Qk rfl rfl (Zj Yn (Vv hv55 rfl)) <|Qk rfl rfl (Yd rfl rfl) <|Q2 2 rfl ?_
 rcases ic hz with ⟨hc56,hz⟩ | ⟨hc56,hz⟩<;>rw [hc56]
 refine Qk rfl rfl (Qp V5 rfl) <|Qk rfl rfl (Ze q3m rfl rfl (by decide) (by decide)) <|Qk rfl rfl (Qp Y6 rfl) ?_
 obtain ⟨x57,hx58,hz⟩:=Qb hz
 refine Qk rfl rfl (Qm (.int .i64 x57.state) Yb rfl (hS.bvB 2 rfl) (Yc (vp (k:=6) rfl rfl (Q5 (rr hb35)) hx58))) <|Qk rfl rfl (Yd rfl rfl) <|Q2 2 rfl ?_
 refine Qf (Qa ?_)
 exact ⟨M53,k0_22,r23.2.1,u1_53,x1_53,r54.2,(x57.state==1),hF49,(hS.sel (H':=[.box b33 cs35 34,.box bP0_2 k0_22 90,.box b25 cs27 40,.stk u1_53 9 1 x1_53,.box b15 cs17 40]) [2,0,3,1,4] (by decide) rfl),f22_1,f53_1,f53_2,rfl,hz⟩
 refine Q2 7 rfl ?_
 refine Qf (Qa ?_)
 exact ⟨M53,k0_22,r23.2.1,u1_53,x1_53,r54.2,false,hF49,(hS.sel (H':=[.box b33 cs35 34,.box bP0_2 k0_22 90,.box b25 cs27 40,.stk u1_53 9 1 x1_53,.box b15 cs17 40]) [2,0,3,1,4] (by decide) rfl),f22_1,f53_1,f53_2,rfl,hz⟩
 refine Q2 13 rfl ?_
 refine Qf (Qa ?_)
 exact ⟨M30,k0_22,r23.2.1,u1_22,x1_22,r23.2.2,false,hF49,hS,f22_1,f22_2,f22_3,rfl,hz⟩
 refine Q2 18 rfl ?_
 refine Qf (Qa ?_)
 exact ⟨M30,k0_22,r23.2.1,u1_22,x1_22,r23.2.2,false,hF49,hS,f22_1,f22_2,f22_3,rfl,hz⟩
 rintro T39 w37 ⟨M38,cs40,d41,v42,xs43,l44,c47,hx48,hS,hb40,hk45,hp46,hT39_0,hz⟩
 rw [qjx] at hz
 cases hz
 exact Q4 (Yg rfl hT39_0 ⟨rfl,(Ql (Ql (Ql (Ql (Ql hS))))).kept⟩)
def qxx (fu:Nat) (x1:GCluster) (x2:GAct) (x3:GReply):Option Bool :=
 some true
theorem q4i {M:Mm} {w:World} {bx1:Nat} {cx1:List Value} {cx2:List Value} {cx3:List Value} {x1:GCluster} {x2:GAct} {x3:GReply} {fu:Nat} {r:Bool} (hS:St w (qai [.box bx1 cx1 90]) M [.box bx1 cx1 90] w) (hcx1:rep M cx1 x1) (hcx2:rep M cx2 x2) (hcx3:rep M cx3 x3) (hz:qxx fu x1 x2 x3=some r) :
    Calls Try.prog 16 #[.pointer (some ⟨bx1,0,none⟩),.agg cx2.toArray,.agg cx3.toArray] w (qcv M w [.box bx1 cx1 90] (fun M' u L'=>u = .bool r∧L'=[.box bx1 cx1 90])):=by
 refine Zh Try.func16 rfl 7 rfl rfl (by kernel_rfl) fun T hT => ?_
 have hT_0:T 0 = .pointer (some ⟨bx1,0,none⟩):=hT 0
 have hT_1:T 1 = .agg cx2.toArray:=hT 1
 have hT_2:T 2 = .agg cx3.toArray:=hT 2
 clear hT
 have hE:=Qg w.heap.size (qai [.box bx1 cx1 90]) M
 rw [qxx] at hz
 refine Qh <|Qi ?_
 refine Qs (Yo (v := .agg cx2.toArray) (cs:=cx2) hT_1 rfl hS ?_)
 intro b5 w4 hb5 hS
 refine Qs (Yo (v := .agg cx3.toArray) (cs:=cx3) hT_2 rfl hS ?_)
 intro b7 w6 hb7 hS
 refine Qc (Qj (.bool false) rfl) ?_
 refine Qf (Qa ?_)
 refine Qh <|Qi <|Qc (Qj (.bool true) rfl) ?_
 refine Qf (Qa ?_)
 cases hz
 exact Q4 (Yg rfl rfl ⟨_,M,_,rfl,hE,(hS.sel (H':=[.box bx1 cx1 90]) [2] (by decide) rfl),rfl,rfl⟩)
def qn6 (fu:Nat) (x1:List GAct) (d14:GCluster) (l17:List ByteArray) (y20:Int) (rec21:GCluster→(List ByteArray)→Int→Option (GCluster × Bool × (List ByteArray))):Option (GCluster × Bool × (List ByteArray)) :=
 (idx x1 y20).bind fun x30 =>
 (qt5 fu d14 l17 x30).bind fun r34 =>
 (some r34.1).bind fun d39 =>
 (idx x1 y20).bind fun x44 =>
 (qxx fu r34.2.1 x44 d39).bind fun r50 =>
 (bif !r50 then
 some (r34.2.1,false,r34.2.2)
 else
 rec21 r34.2.1 r34.2.2 (IntKind.wrap .i64 (y20+1)))
def qh0 (fu:Nat) (x1:List GAct) (d14:GCluster) (l17:List ByteArray) (y20:Int) (rec21:GCluster→(List ByteArray)→Int→Option (GCluster × Bool × (List ByteArray))) (c57:Bool):Option (GCluster × Bool × (List ByteArray)) :=
 (bif c57 then
 qn6 fu x1 d14 l17 y20 rec21
 else
 some (d14,true,l17))
def qfm (fu:Nat) (x1:List GAct):Nat→GCluster→(List ByteArray)→Int→Option (GCluster × Bool × (List ByteArray))
 | 0,_,_,_=>none
 | n+1,d14,l17,y20 =>
 (bif decide (y20<(x1.length:Int)) then
 qh0 fu x1 d14 l17 y20 (qfm fu x1 n) (decide (y20<150))
 else
 qh0 fu x1 d14 l17 y20 (qfm fu x1 n) false)
def qt8 (fu:Nat) (x1:List GAct):Option (GCluster × Bool × (List ByteArray)) :=
 (qt7 fu).bind fun r4 =>
 (bif !r4 then
 none
 else
 (qt6 fu).bind fun r8 =>
 qfm fu x1 fu r8.1 r8.2 0)
theorem q4j {M:Mm} {w:World} {vx1:Value} {x1:List GAct} {fu:Nat} {r:GCluster × Bool × (List ByteArray)} (hA:Agree M w) (hvx1:repL M vx1 x1) (hz:qt8 fu x1=some r) :
    Calls Try.prog 15 #[vx1,evT (fun _=>undef) (.func 16)] w (qcv M w [] (fun M' u L' => ∃ bP0 kP0 uP6 xP6,u = .tuple #[.pointer (some ⟨bP0,0,none⟩),.bool r.2.1]∧L'=[.box bP0 kP0 90,.stk uP6 9 1 xP6]∧rep M' kP0 r.1∧skr M' uP6 xP6 r.2.2∧sl kP0 1993 1=[uP6])):=by
 refine Zh Try.func15 rfl 39 rfl rfl (by kernel_rfl) fun T hT => ?_
 have hT_0:T 0=vx1:=hT 0
 have hT_1:T 1=evT (fun _=>undef) (.func 16):=hT 1
 clear hT
 have hE:=Qg w.heap.size (qai []) M
 have hS:St w (qai []) M [] w:=Zx hA
 rw [qt8] at hz
 refine Qh <|Qi <|Q2 2 rfl ?_
 refine Qf (Qa ?_)
 refine Qh <|Qh <|Qi ?_
 obtain ⟨r4,hr3,hz⟩:=Qb hz
 refine Qs (Z6 (vs:=[]) (v := .bool r4) cb33 q5s hS (q4h hS.agree hr3) ?_)
 intro w2 hS
 refine Qc (Ye rfl) ?_
 refine Qf (Qa ?_)
 refine Qr rfl (fun hc5 => ?_) (fun hc5 => ?_)
 replace hz:=Qn hz hc5
 refine Qh <|Qi <|Q2 2 rfl ?_
 refine Qf (Qa ?_)
 cases hz
 replace hz:=Qo hz hc5
 refine Qt (Qa ?_)
 refine Qh <|Qi ?_
 obtain ⟨r8,hr7,hz⟩:=Qb hz
 refine Qs (Zl (vs:=[]) (L:=[]) (R:=[]) (rv:=(fun M' u L' => ∃ bP0 kP0 uP6 xP6,u = .pointer (some ⟨bP0,0,none⟩)∧L'=[.box bP0 kP0 90,.stk uP6 9 1 xP6]∧rep M' kP0 r8.1∧skr M' uP6 xP6 r8.2∧sl kP0 1993 1=[uP6])) cb41 q5s hS (hS.sel [] (by decide) rfl) (fun hS=>qxw hS.agree hr7) ?_)
 rintro u7 M7 w6 L7 hx7 ⟨bP0_7,kP0_7,uP6_7,xP6_7,rfl,hL7,f7_0,f7_1,f7_2⟩ hS
 replace hS:=hS _ hL7
 replace hvx1:=Qz hx7.1 hvx1
 replace hE:=Qd hE hx7
 refine Qc (Qj (.pointer (some ⟨bP0_7,0,none⟩)) rfl) ?_
 refine Qf (Qa ?_)
 refine Qh <|Qh <|Qi <|Qc (Qj (.int .i64 0) rfl) ?_
 refine Qf (Qa ?_)
 refine Qv ?_
 refine Zw (fun k22 T' w' => ∃ M11 cs13 d14 v15 xs16 l17 y20,Mm.ext w.heap.size (qai []) M7 M11∧St w (qai []) M11 [.box bP0_7 cs13 90,.stk v15 9 1 xs16] w'∧rep M11 cs13 d14∧skr M11 v15 xs16 l17∧sl cs13 (0+1993) 1=[v15]∧T' 0=vx1∧T' 1=evT (fun _=>undef) (.func 16)∧T' 6 = .pointer (some ⟨bP0_7,0,none⟩)∧T' 7 = .int .i64 y20∧qfm fu x1 k22 d14 l17 y20=some r) fu ?_ ?_ ?_
 exact ⟨M7,kP0_7,r8.1,uP6_7,xP6_7,r8.2,(0:Int),(Qg _ _ _),hS,f7_0,f7_1,f7_2,hT_0,hT_1,rfl,rfl,hz⟩
 rintro T' w' ⟨_,_,_,_,_,_,_,_,_,_,_,_,_,_,_,_,hz⟩
 rw [qfm] at hz
 cases hz
 intro k22
 rintro T12 w10 ⟨M11,cs13,d14,v15,xs16,l17,y20,hx24,hS,hb13,hk18,hp19,hT12_0,hT12_1,hT12_6,hT12_7,hz⟩
 replace hvx1:=Qz hx24.1 hvx1
 replace hE:=Qd hE hx24
 have hF23:=hx24
 rw [qfm] at hz
 obtain ⟨rec21,hrec21⟩ : ∃ f,f=qfm fu x1 k22:=⟨_,rfl⟩
 rw [← hrec21] at hz
 refine Q0 (fun T' w' => ∃ M26,Mm.ext w.heap.size (qai []) M11 M26∧St w (qai []) M26 [.box bP0_7 cs13 90,.stk v15 9 1 xs16] w'∧T' 0=vx1∧T' 1=evT (fun _=>undef) (.func 16)∧T' 6 = .pointer (some ⟨bP0_7,0,none⟩)∧T' 7 = .int .i64 y20∧qn6 fu x1 d14 l17 y20 rec21=some r) ?_ ?_
 have hF53:=Qg w.heap.size (qai []) M11
 refine Q0 (fun T' w' => ∃ M55 c57,Mm.ext w.heap.size (qai []) M11 M55∧St w (qai []) M55 [.box bP0_7 cs13 90,.stk v15 9 1 xs16] w'∧T' 0=vx1∧T' 1=evT (fun _=>undef) (.func 16)∧T' 6 = .pointer (some ⟨bP0_7,0,none⟩)∧T' 7 = .int .i64 y20∧T' 19 = .bool c57∧qh0 fu x1 d14 l17 y20 rec21 c57=some r) ?_ ?_
 have hF60:=Qg w.heap.size (qai []) M11
 refine Qi <|Qc (Qe (.int .i64 y20) hT12_7) <|Qc (Qe (vx1) hT12_0) ?_
 obtain ⟨a61,c61,hv61,_⟩:=Q3 hvx1
 refine Qc (Zj Try.underlying22 (Vv hv61 rfl)) <|Qc (Zv rfl rfl) <|Qc (Qe (.bool (decide (y20<(x1.length:Int)))) rfl) ?_
 rcases ic hz with ⟨hc62,hz⟩ | ⟨hc62,hz⟩<;>rw [hc62]
 refine Qk rfl rfl (Qe (.int .i64 y20) hT12_7) <|Qk rfl rfl (Zv rfl rfl) <|Qc (Zy (.bool (decide (y20<150))) rfl rfl) ?_
 refine Qf (Qa ?_)
 exact ⟨M11,(decide (y20<150)),hF60,hS,hT12_0,hT12_1,hT12_6,hT12_7,rfl,hz⟩
 refine Q2 3 rfl ?_
 refine Qf (Qa ?_)
 exact ⟨M11,false,hF60,hS,hT12_0,hT12_1,hT12_6,hT12_7,rfl,hz⟩
 rintro T56 w54 ⟨M55,c57,hx58,hS,hT56_0,hT56_1,hT56_6,hT56_7,hT56_19,hz⟩
 replace hb13:=Rep.mono hx58.1 hb13
 replace hk18:=Zn hx58.1 hk18
 replace hE:=Qd hE hx58
 replace hF53:=Qd hF53 hx58
 rw [qh0] at hz
 refine Qr hT56_19 (fun hc59 => ?_) (fun hc59 => ?_)
 replace hz:=Qn hz hc59
 refine Qt (Qa ?_)
 exact ⟨M55,hF53,hS,hT56_0,hT56_1,hT56_6,hT56_7,hz⟩
 replace hz:=Qo hz hc59
 refine Zq <|Qy <|Qy <|Zs ?_
 refine (Qa ?_)
 refine Qh <|Qi <|Qc (Qe (.pointer (some ⟨bP0_7,0,none⟩)) hT56_6) <|Q2 2 rfl ?_
 refine Qf (Qa ?_)
 cases hz
 exact Q4 (qz9 rfl rfl rfl ⟨_,M55,_,rfl,hE,(hS.sel (H':=[.box bP0_7 cs13 90,.stk v15 9 1 xs16]) [0,1] (by decide) rfl),bP0_7,cs13,v15,xs16,rfl,rfl,hb13,hk18,hp19⟩)
 rintro T27 w25 ⟨M26,hx28,hS,hT27_0,hT27_1,hT27_6,hT27_7,hz⟩
 replace hvx1:=Qz hx28.1 hvx1
 replace hb13:=Rep.mono hx28.1 hb13
 replace hk18:=Zn hx28.1 hk18
 rw [qn6] at hz
 refine Qh <|Qv <|Qh <|Qi <|Qc (Qe (.pointer (some ⟨bP0_7,0,none⟩)) hT27_6) <|Qc (Qe (vx1) hT27_0) <|Qc (Qe (.int .i64 y20) hT27_7) ?_
 obtain ⟨x30,hx29,hz⟩:=Qb hz
 obtain ⟨b29,o29,c29,p29,hv29,hi29,hj29,hM29,hr29⟩:=Yf hvx1 hx29
 replace hr29:rep _ (sl p29 (o29+Int.toNat y20*4) 4) x30:=hr29
 refine Qc (Ys zas rfl hv29 rfl hi29 hj29) ?_
 have ha31:=hr29
 refine Qc (Zf q8d rfl (hS.bvM hM29) (Rep.len ha31)) ?_
 obtain ⟨r34,hr33,hz⟩:=Qb hz
 refine Qs (Zl (vs:=[.pointer (some ⟨bP0_7,0,none⟩),.agg (sl p29 (o29+Int.toNat y20*4) 4).toArray]) (L:=[.box bP0_7 cs13 90,.stk v15 9 1 xs16]) (R:=[]) (rv:=(fun M' u L' => ∃ c0 k0 u1 x1,u = .agg c0.toArray∧L'=[.box bP0_7 k0 90,.stk u1 9 1 x1]∧rep M' c0 r34.1∧rep M' k0 r34.2.1∧skr M' u1 x1 r34.2.2∧sl k0 1993 1=[u1])) q9m (Z8 rfl rfl) hS (hS.sel [0,1] (by decide) rfl) (fun hS=>qsc hS hb13 hk18 hp19 ha31 hr33) ?_)
 rintro u33 M33 w32 L33 hx33 ⟨c0_33,k0_33,u1_33,x1_33,rfl,hL33,f33_0,f33_1,f33_2,f33_3⟩ hS
 replace hS:=hS _ hL33
 replace hvx1:=Qz hx33.1 hvx1
 refine Qs (Zg q3n hS ?_)
 intro b36 w35 hb36 hS
 have zb36:rep M33 (Zr.zc GReply) (Zr.zd:GReply):=Zr.zr
 obtain ⟨d39,hd38,hz⟩:=Qb hz
 refine Qs (Q8 0 3 hS rfl zb36 rfl rfl f33_0 rfl rfl (Lf (rr zb36) f33_0) hd38 ?_)
 intro cs38 w37 hb38 ha38 hs38 hS
 refine Qf (Qa ?_)
 refine Qh <|Yu [.box b36 cs38 40] [] Ya hS fun w40 hS hG41 hR42=>wy 0 rfl (Qe (evT (fun _=>undef) (.func 16)) hT27_1) (fun _=>hR42) <|wy 1 rfl (Qe (.pointer (some ⟨bP0_7,0,none⟩)) hT27_6) (fun _=>hR42) <|wy 2 rfl (Qe (vx1) hT27_0) (fun _=>hR42) <|wy 3 rfl (Qe (.int .i64 y20) hT27_7) (fun _=>hR42) ?_
 obtain ⟨x44,hx43,hz⟩:=Qb hz
 obtain ⟨b43,o43,c43,p43,hv43,hi43,hj43,hM43,hr43⟩:=Yf hvx1 hx43
 replace hr43:rep _ (sl p43 (o43+Int.toNat y20*4) 4) x44:=hr43
 refine wy 4 rfl (Ys zas rfl hv43 rfl hi43 hj43) (fun _=>hR42) ?_
 have ha45:=hr43
 refine Y8 5 rfl (Zf q8d rfl (q9q hM43) (Rep.len ha45)) hR42 ?_
 have ha46:=(rr hb38)
 refine Y8 6 rfl (Zf Kn rfl (Yp 0 rfl) (Rep.len ha46)) hR42 ?_
 obtain ⟨r50,hr49,hz⟩:=Qb hz
 refine w1 7 rfl (q34 rfl (Zl (vs:=[.pointer (some ⟨bP0_7,0,none⟩),.agg (sl p43 (o43+Int.toNat y20*4) 4).toArray,.agg (sl cs38 (0) 3).toArray]) (L:=[.box bP0_7 k0_33 90]) (R:=[.box b36 cs38 40,.stk u1_33 9 1 x1_33]) (rv:=(fun M' u L'=>u = .bool r50∧L'=[.box bP0_7 k0_33 90])) cb16 (Jj rfl rfl rfl) hS (hS.sel [1,0,2] (by decide) rfl) (fun hS=>q4i hS f33_1 ha45 ha46 hr49)) ?_)
 rintro u49 M49 w48 L49 hx49 ⟨rfl,hL49⟩ hS
 replace hS:=hS _ hL49
 replace f33_1:=Rep.mono hx49.1 f33_1
 replace f33_2:=Zn hx49.1 f33_2
 replace hE:=Qd hE (hx28.trans (hx33.trans hx49))
 replace hF23:=Qd hF23 (hx28.trans (hx33.trans hx49))
 replace hG41:=Qd hG41 hx49
 refine Yq hS hG41 fun hR51=>wy 8 rfl (Ye rfl) (fun _=>hR51) ?_
 refine wd (Qa ?_)
 refine Qr rfl (fun hc52 => ?_) (fun hc52 => ?_)
 replace hz:=Qn hz hc52
 refine Qh <|Qi <|Qc (Qe (.pointer (some ⟨bP0_7,0,none⟩)) hT27_6) <|Q2 2 rfl ?_
 refine Qf (Qa ?_)
 cases hz
 exact Q4 (Zb (Qq (Qq (Zb (Qq (qz9 rfl rfl rfl ⟨_,M49,_,rfl,hE,(hS.sel (H':=[.box bP0_7 k0_33 90,.stk u1_33 9 1 x1_33]) [0,2] (by decide) rfl),bP0_7,k0_33,u1_33,x1_33,rfl,rfl,f33_1,f33_2,f33_3⟩))))))
 replace hz:=Qo hz hc52
 refine Qt (Za ?_)
 refine (Qa ?_)
 refine Qi <|Qc (Qe (.int .i64 y20) hT27_7) <|Qc (Zz rfl rfl) <|Qc (Qj (.int .i64 (IntKind.wrap .i64 (y20+1))) rfl) ?_
 refine Qf (Qa ?_)
 exact ⟨M49,k0_33,r34.2.1,u1_33,x1_33,r34.2.2,(IntKind.wrap .i64 (y20+1)),hF23,(hS.sel (H':=[.box bP0_7 k0_33 90,.stk u1_33 9 1 x1_33]) [0,2] (by decide) rfl),f33_1,f33_2,f33_3,hT27_0,hT27_1,hT27_6,rfl,(by rw [← hrec21];exact hz)⟩
end Go.Proofs.Yteilffoclpgijaa
namespace Go.Proofs.Yteilffoclpgijaa
open Go.RowKit
open Rep (rep)
section
variable {P:Program} {S:World→Prop} {n:Nat} {Q:Exit→Tm→World→Prop} {T:Tm} {w w0:World} {X:Nat→Prop} {M:Mm} {H:List Ent} {K:Tm→World→Prop} {dst:Option Tmp} {ty:TypeId} {pos:String} {af:Array Edge} {g:Option (Nat × Bool)}
theorem Y_mf {f:FuncId} {cap:List Operand} {vs:List Value} (h:cap.map (evT T)=vs):YV P S T ⟨dst,.makeFunc (.func f) #[] cap.toArray,ty,pos,af,g⟩ (.func (.func f) #[] vs.toArray):=by
 intro w _
 subst h
 simp [execOp,Instr.makeFunc]
theorem qt9 {f:FuncId} {x:Operand} {args:List Operand} {cap:List Value} {ats:Array TypeId} {Kt:Prop} (hx:evT T x = .func (.func f) #[] cap.toArray) (h:Kt→OW P n Q ⟨dst,.call ⟨.value (.func f),(args++cap.map Operand.const).toArray,ats⟩,ty,pos,af,g⟩ T w K) (k:Kt) :
  OW P n Q ⟨dst,.call ⟨.value x,args.toArray,ats⟩,ty,pos,af,g⟩ T w K:=by
 intro hok a ha
 have h1:=h k hok a ha
 unfold Oper.wp at h1 ⊢
 have e:execOp a.eval ⟨dst,.call ⟨.value x,args.toArray,ats⟩,ty,pos,af,g⟩=execOp a.eval ⟨dst,.call ⟨.value (.func f),(args++cap.map Operand.const).toArray,ats⟩,ty,pos,af,g⟩:=by
  rw [ha.eval]
  have hc:(cap.map Operand.const).map (evT T)=cap:=by
   rw [List.map_map]
   exact List.map_id _
  have ev:evT T (.func f) = .func (.func f) #[] #[]:=rfl
  simp [execOp,resolve,hx,ev,Deferred.ofValue,invoke,List.map_append,hc]
 rw [e]
 exact h1
theorem qua {x:Operand} {v:Value} {cap:List Value} (h:evT T x=v):(([x]:List Operand)++cap.map Operand.const).map (evT T)=v::cap:=by
 have hc:(cap.map Operand.const).map (evT T)=cap:=by
  rw [List.map_map]
  exact List.map_id _
 rw [List.map_append,hc]
 simp [h]
end
end Go.Proofs.Yteilffoclpgijaa
namespace Go.Proofs.Yteilffoclpgijaa
set_option maxHeartbeats 4000000
set_option maxRecDepth 100000
open Go.RowKit
open Rep (rep)
set_option linter.unusedVariables false
abbrev Kb := @q52
def qfn (fu:Nat) (x1:GAct) (x2:GCluster) (l4:List ByteArray):Option (Int × GCluster × (List ByteArray)) :=
 (qt5 fu x2 l4 x1).bind fun r10 =>
 some (r10.1.code,r10.2.1,r10.2.2)
theorem qha {M:Mm} {w:World} {cx1:List Value} {px2:Nat} {bx2:Nat} {cx2:List Value} {ux2_6:Value} {xsx2_6:List Value} {x1:GAct} {x2:GCluster} {l4:List ByteArray} {fu:Nat} {r:Int × GCluster × (List ByteArray)} (hS:St w (qai [.box px2 [.pointer (some ⟨bx2,0,none⟩)] 23,.box bx2 cx2 90,.stk ux2_6 9 1 xsx2_6]) M [.box px2 [.pointer (some ⟨bx2,0,none⟩)] 23,.box bx2 cx2 90,.stk ux2_6 9 1 xsx2_6] w) (hcx1:rep M cx1 x1) (hcx2:rep M cx2 x2) (hkx2_6:skr M ux2_6 xsx2_6 l4) (hpx2_6:sl cx2 1993 1=[ux2_6]) (hz:qfn fu x1 x2 l4=some r) :
    Calls Try.prog 31 #[.agg cx1.toArray,.pointer (some ⟨px2,0,none⟩)] w (qcv M w [.box px2 [.pointer (some ⟨bx2,0,none⟩)] 23,.box bx2 cx2 90,.stk ux2_6 9 1 xsx2_6] (fun M' u L' => ∃ k1 u2 x2,u = .int .i64 r.1∧L'=[.box px2 [.pointer (some ⟨bx2,0,none⟩)] 23,.box bx2 k1 90,.stk u2 9 1 x2]∧rep M' k1 r.2.1∧skr M' u2 x2 r.2.2∧sl k1 1993 1=[u2])):=by
 refine Zh Try.func31 rfl 8 rfl rfl (by kernel_rfl) fun T hT => ?_
 have hT_0:T 0 = .agg cx1.toArray:=hT 0
 have hT_1:T 1 = .pointer (some ⟨px2,0,none⟩):=hT 1
 clear hT
 have hE:=Qg w.heap.size (qai [.box px2 [.pointer (some ⟨bx2,0,none⟩)] 23,.box bx2 cx2 90,.stk ux2_6 9 1 xsx2_6]) M
 rw [qfn] at hz
 refine Qh <|Qi ?_
 refine Qs (Yo (v := .agg cx1.toArray) (cs:=cx1) hT_0 rfl hS ?_)
 intro b6 w5 hb6 hS
 refine Qc (Qj (.int .i64 0) rfl) ?_
 refine Qf (Qa ?_)
 refine Qh <|Qi <|Qc (Qm (.pointer (some ⟨bx2,0,none⟩)) q49 hT_1 (hS.bvB 1 rfl) (rr (Kb (M:=M)))) ?_
 have ha7:=(rr hcx1)
 refine Qc (Zf q8d rfl (hS.bvB 0 rfl) (Rep.len ha7)) ?_
 obtain ⟨r10,hr9,hz⟩:=Qb hz
 refine Qs (Zl (vs:=[.pointer (some ⟨bx2,0,none⟩),.agg (sl cx1 (0) 4).toArray]) (L:=[.box bx2 cx2 90,.stk ux2_6 9 1 xsx2_6]) (R:=[.box b6 cx1 43,.box px2 [.pointer (some ⟨bx2,0,none⟩)] 23]) (rv:=(fun M' u L' => ∃ c0 k0 u1 x1,u = .agg c0.toArray∧L'=[.box bx2 k0 90,.stk u1 9 1 x1]∧rep M' c0 r10.1∧rep M' k0 r10.2.1∧skr M' u1 x1 r10.2.2∧sl k0 1993 1=[u1])) q9m (Z8 rfl rfl) hS (hS.sel [2,3,0,1] (by decide) rfl) (fun hS=>qsc hS hcx2 hkx2_6 hpx2_6 ha7 hr9) ?_)
 rintro u9 M9 w8 L9 hx9 ⟨c0_9,k0_9,u1_9,x1_9,rfl,hL9,f9_0,f9_1,f9_2,f9_3⟩ hS
 replace hS:=hS _ hL9
 replace hE:=Qd hE hx9
 refine Qc (q7t (.int .i64 r10.1.code) q8c rfl (GReply.p0 (rr f9_0))) <|Qc (Qj (.int .i64 r10.1.code) rfl) ?_
 refine Qf (Qa ?_)
 cases hz
 exact Q4 (Yg rfl rfl ⟨_,M9,_,rfl,hE,(hS.sel (H':=[.box px2 [.pointer (some ⟨bx2,0,none⟩)] 23,.box bx2 k0_9 90,.stk u1_9 9 1 x1_9]) [3,0,1] (by decide) rfl),k0_9,u1_9,x1_9,rfl,rfl,f9_1,f9_2,f9_3⟩)
def qfo (y23:Int) (rec24:GCluster→Int→Option Bool) (d32:GCluster):Option Bool :=
 rec24 d32 (IntKind.wrap .i64 (y23+1))
def qb2 (fu:Nat) (y127:Int) (rec128:GCluster→(List ByteArray)→Int→Option Bool):Nat→GCluster→(List ByteArray)→Option Bool
 | 0,_,_=>none
 | n+1,d143,l146 =>
 (qo8 fu d143 l146).bind fun r155 =>
 (bif decide ((r155.1.length:Int)>0) then
 (some ({ kind:=2,n:=Zr.zd,m:=Zr.zd,ops:=Zr.zd }:GAct)).bind fun d159 =>
 (qfn fu d159 d143 r155.2).bind fun r163 =>
 (bif r163.1==5 then
 some false
 else
 (qb2 fu y127 rec128 n) r163.2.1 r163.2.2)
 else
 rec128 d143 r155.2 (IntKind.wrap .i64 (y127+1)))
def qbg (fu:Nat) (y23:Int) (y111:Int) (rec112:GCluster→(List ByteArray)→Int→Option Bool):Nat→GCluster→(List ByteArray)→Int→Option Bool
 | 0,_,_,_=>none
 | n+1,d121,l124,y127 =>
 (bif decide (y127<y23) then
 (some ({ kind:=5,n:=y127,m:=Zr.zd,ops:=Zr.zd }:GAct)).bind fun d134 =>
 (qfn fu d134 d121 l124).bind fun r138 =>
 qb2 fu y127 (qbg fu y23 y111 rec112 n) fu r138.2.1 r138.2.2
 else
 rec112 d121 l124 (IntKind.wrap .i64 (y111+1)))
def qb3 (fu:Nat) (y175:Int) (rec176:GCluster→(List ByteArray)→Int→Option Bool):Nat→GCluster→(List ByteArray)→Int→Option Bool
 | 0,_,_,_=>none
 | n+1,d192,l195,y198 =>
 (bif decide (y198<6) then
 (qi5 fu d192 y198).bind fun r206 =>
 (some r206.1).bind fun d211 =>
 (inR y175 32).bind fun _ =>
 (qa7 d211.entries y175).bind fun x214 =>
 (bif x214.state != 3 then
 some false
 else
 (qb3 fu y175 rec176 n) d192 l195 (IntKind.wrap .i64 (y198+1)))
 else
 rec176 d192 l195 (IntKind.wrap .i64 (y175+1)))
def qb4 (fu:Nat):Nat→GCluster→(List ByteArray)→Int→Option Bool
 | 0,_,_,_=>none
 | n+1,d221,l224,y227 =>
 (bif decide (y227<6) then
 (qi5 fu d221 y227).bind fun r235 =>
 (some r235.1).bind fun d240 =>
 (qi5 fu d221 (IntKind.wrap .i64 ((IntKind.wrap .i64 (Int.tdiv y227 3))*3))).bind fun r243 =>
 (some r243.1).bind fun d248 =>
 (bif !decide (d240.values=d248.values) then
 some false
 else
 (qb4 fu n) d221 l224 (IntKind.wrap .i64 (y227+1)))
 else
 some true)
def qbh (fu:Nat) (y23:Int):Nat→GCluster→(List ByteArray)→Int→Option Bool
 | 0,_,_,_=>none
 | n+1,d169,l172,y175 =>
 (bif decide (y175<y23) then
 (qmn fu d169 y175).bind fun r183 =>
 (qel fu r183).bind fun r186 =>
 (bif !r186.2 then
 some false
 else
 qb3 fu y175 (qbh fu y23 n) fu d169 l172 0)
 else
 qb4 fu fu d169 l172 0)
def qao (fu:Nat) (y23:Int):Nat→GCluster→(List ByteArray)→Int→Option Bool
 | 0,_,_,_=>none
 | n+1,d105,l108,y111 =>
 (bif decide (y111<2) then
 qbg fu y23 y111 (qao fu y23 n) fu d105 l108 0
 else
 qbh fu y23 fu d105 l108 0)
def qb5 (fu:Nat) (y23:Int):Nat→GCluster→(List ByteArray)→Option Bool
 | 0,_,_=>none
 | n+1,d79,l82 =>
 (qo8 fu d79 l82).bind fun r91 =>
 (bif decide ((r91.1.length:Int)>0) then
 (some ({ kind:=4,n:=Zr.zd,m:=Zr.zd,ops:=Zr.zd }:GAct)).bind fun d95 =>
 (qfn fu d95 d79 r91.2).bind fun r99 =>
 (bif r99.1 != 0 then
 some false
 else
 (qb5 fu y23 n) r99.2.1 r99.2.2)
 else
 qao fu y23 fu d79 r91.2 0)
def qb6 (fu:Nat) (y23:Int):Nat→GCluster→(List ByteArray)→Int→Option Bool
 | 0,_,_,_=>none
 | n+1,d50,l53,y56 =>
 (bif decide (y56<6) then
 (some ({ kind:=6,n:=y56,m:=Zr.zd,ops:=Zr.zd }:GAct)).bind fun d63 =>
 (qfn fu d63 d50 l53).bind fun r67 =>
 (some ({ kind:=8,n:=y56,m:=Zr.zd,ops:=Zr.zd }:GAct)).bind fun d69 =>
 (qfn fu d69 r67.2.1 r67.2.2).bind fun r73 =>
 (bif r73.1 != 0 then
 some false
 else
 (qb6 fu y23 n) r73.2.1 r73.2.2 (IntKind.wrap .i64 (y56+1)))
 else
 qb5 fu y23 fu d50 l53)
def qcr (fu:Nat) (r10:GCluster × Bool × (List ByteArray)) (y23:Int) (rec24:GCluster→Int→Option Bool) (d40:GCluster) (c42:Bool):Option Bool :=
 (bif c42 then
 qfo y23 rec24 d40
 else
 (bif decide (y23>3) then
 some true
 else
 qb6 fu y23 fu d40 r10.2.2 0))
def qbi (fu:Nat) (r10:GCluster × Bool × (List ByteArray)):Nat→GCluster→Int→Option Bool
 | 0,_,_=>none
 | n+1,d21,y23 =>
 (bif decide (y23<32) then
 (qmn fu d21 y23).bind fun r256 =>
 qcr fu r10 y23 (qbi fu r10 n) d21 r256.begun
 else
 qcr fu r10 y23 (qbi fu r10 n) d21 false)
def qdc (fu:Nat) (l5:List GAct):Option Bool :=
 (qt8 fu l5).bind fun r10 =>
 (bif !r10.2.1 then
 some false
 else
 qbi fu r10 fu r10.1 0)
def qh1 (fu:Nat) (x1:List GAct):Option Bool :=
 (bif decide ((x1.length:Int)>60) then
 (qqs x1 none (some 60)).bind fun l261 =>
 qdc fu l261
 else
 qdc fu x1)
theorem topSettles_ok {M:Mm} {w:World} {vx1:Value} {x1:List GAct} {fu:Nat} {r:Bool} (hA:Agree M w) (hvx1:repL M vx1 x1) (hz:qh1 fu x1=some r) :
    Calls Try.prog 9 #[vx1] w (qc1 w (.bool r)):=by
 refine Zh Try.func9 rfl 139 rfl rfl (by kernel_rfl) fun T hT => ?_
 have hT_0:T 0=vx1:=hT 0
 clear hT
 have hE:=Qg w.heap.size noX M
 have hS:St w noX M [] w:=Zx hA
 rw [qh1] at hz
 refine Qh <|Qi <|Qc (Qj (.bool false) rfl) ?_
 refine Qf (Qa ?_)
 refine Q0 (fun T' w' => ∃ M3 v6 l5,Mm.ext w.heap.size noX M M3∧St w noX M3 [] w'∧repL M3 v6 l5∧T' 0=v6∧qdc fu l5=some r) ?_ ?_
 have hF257:=Qg w.heap.size noX M
 refine Qh <|Qi <|Qc (Qe (vx1) hT_0) ?_
 obtain ⟨a258,c258,hv258,_⟩:=Q3 hvx1
 refine Qc (Zj Try.underlying22 (Vv hv258 rfl)) <|Qc (Yr rfl rfl) ?_
 refine Qf (Qa ?_)
 refine Qr rfl (fun hc259 => ?_) (fun hc259 => ?_)
 replace hz:=Qn hz hc259
 refine Qi <|Qc (Qe (vx1) hT_0) ?_
 obtain ⟨l261,hx260,hz⟩:=Qb hz
 obtain ⟨⟨pp260,qq260⟩,hc260,hx260⟩:=Option.map_eq_some_iff.1 hx260
 obtain ⟨a260,c260,hv260,hn260⟩:=Q3 hvx1
 have h260l:repL _ (qj2 vx1 4 pp260 qq260) l261:=hx260 ▸ qxh hvx1 hc260
 refine Qc (qs2 (l:=none) (h:=(some 60)) zas rfl hv260 evn (evs rfl) hc260 hn260) <|Qc (Qj ((qj2 vx1 4 pp260 qq260)) rfl) ?_
 refine Qf (Qa ?_)
 exact ⟨M,(qj2 vx1 4 pp260 qq260),l261,hF257,hS,h260l,rfl,hz⟩
 replace hz:=Qo hz hc259
 refine Qt (Qa ?_)
 exact ⟨M,vx1,x1,hF257,hS,hvx1,hT_0,hz⟩
 rintro T4 w2 ⟨M3,v6,l5,hx7,hS,hv6,hT4_0,hz⟩
 rw [qdc] at hz
 refine Qh <|Qi <|Qc (Qe (v6) hT4_0) ?_
 obtain ⟨r10,hr9,hz⟩:=Qb hz
 refine Qs (Zl (vs:=[v6,evT (fun _=>undef) (.func 16)]) (L:=[]) (R:=[]) (rv:=(fun M' u L' => ∃ bP0 kP0 uP6 xP6,u = .tuple #[.pointer (some ⟨bP0,0,none⟩),.bool r10.2.1]∧L'=[.box bP0 kP0 90,.stk uP6 9 1 xP6]∧rep M' kP0 r10.1∧skr M' uP6 xP6 r10.2.2∧sl kP0 1993 1=[uP6])) cb15 (Z8 rfl rfl) hS (hS.sel [] (by decide) rfl) (fun hS=>q4j hS.agree hv6 hr9) ?_)
 rintro u9 M9 w8 L9 hx9 ⟨bP0_9,kP0_9,uP6_9,xP6_9,rfl,hL9,f9_0,f9_1,f9_2⟩ hS
 replace hS:=hS _ hL9
 refine Qc (Qe (.tuple #[.pointer (some ⟨bP0_9,0,none⟩),.bool r10.2.1]) rfl) <|Qc (Q7 (v := .pointer (some ⟨bP0_9,0,none⟩)) rfl rfl) <|Qc (Q7 (v := .bool r10.2.1) rfl rfl) ?_
 refine Qs (Zg tz23 hS ?_)
 intro b13 w12 hb13 hS
 have zb13:rep M9 (Zr.zc Ptr) (Zr.zd:Ptr):=Zr.zr
 refine Qs (Q8 0 1 hS rfl zb13 rfl rfl (Kb (M:=M9)) rfl rfl (Lf (rr zb13) (Kb (M:=M9))) rfl ?_)
 intro cs15 w14 hb15 ha15 hs15 hS
 obtain rfl:cs15=[.pointer (some ⟨bP0_9,0,none⟩)]:=hb15
 refine Qc (Qj (.bool r10.2.1) rfl) ?_
 refine Qf (Qa ?_)
 refine Qh <|Qh <|Qi <|Qc (Qe (.bool r10.2.1) rfl) <|Qc (Ye rfl) ?_
 refine Qf (Qa ?_)
 refine Qr rfl (fun hc16 => ?_) (fun hc16 => ?_)
 replace hz:=Qn hz hc16
 refine Qh <|Qi <|Qc (Qj (.bool false) rfl) ?_
 refine Qf (Qa ?_)
 cases hz
 exact Q4 (Qq (Yg rfl rfl ⟨rfl,(Ql (Ql (Ql hS))).kept⟩))
 replace hz:=Qo hz hc16
 refine Qt (Qa ?_)
 refine Qh <|Qi <|Qc (Qj (.int .i64 0) rfl) ?_
 refine Qf (Qa ?_)
 refine Qh <|Qv ?_
 refine Zw (fun k25 T' w' => ∃ M18 cs20 d21 y23,Mm.ext w.heap.size noX M9 M18∧St w noX M18 [.box b13 [.pointer (some ⟨bP0_9,0,none⟩)] 23,.box bP0_9 cs20 90,.stk uP6_9 9 1 xP6_9] w'∧rep M18 cs20 d21∧sl cs20 (0+1993) 1=[uP6_9]∧T' 3 = .pointer (some ⟨b13,0,none⟩)∧T' 5 = .int .i64 y23∧qbi fu r10 k25 d21 y23=some r) fu ?_ ?_ ?_
 exact ⟨M9,kP0_9,r10.1,(0:Int),(Qg _ _ _),hS,f9_0,f9_2,rfl,rfl,hz⟩
 rintro T' w' ⟨_,_,_,_,_,_,_,_,_,_,hz⟩
 rw [qbi] at hz
 cases hz
 intro k25
 rintro T19 w17 ⟨M18,cs20,d21,y23,hx27,hS,hb20,hp22,hT19_3,hT19_5,hz⟩
 replace f9_1:=Zn hx27.1 f9_1
 have hF26:=hx27
 rw [qbi] at hz
 obtain ⟨rec24,hrec24⟩ : ∃ f,f=qbi fu r10 k25:=⟨_,rfl⟩
 rw [← hrec24] at hz
 refine Q0 (fun T' w' => ∃ M29 cs31 d32,Mm.ext w.heap.size noX M18 M29∧St w noX M29 [.box b13 [.pointer (some ⟨bP0_9,0,none⟩)] 23,.box bP0_9 cs31 90,.stk uP6_9 9 1 xP6_9] w'∧rep M29 cs31 d32∧sl cs31 (0+1993) 1=[uP6_9]∧T' 3 = .pointer (some ⟨b13,0,none⟩)∧T' 5 = .int .i64 y23∧qfo y23 rec24 d32=some r) ?_ ?_
 have hF35:=Qg w.heap.size noX M18
 refine Q0 (fun T' w' => ∃ M37 cs39 d40 c42,Mm.ext w.heap.size noX M18 M37∧St w noX M37 [.box b13 [.pointer (some ⟨bP0_9,0,none⟩)] 23,.box bP0_9 cs39 90,.stk uP6_9 9 1 xP6_9] w'∧rep M37 cs39 d40∧sl cs39 (0+1993) 1=[uP6_9]∧T' 3 = .pointer (some ⟨b13,0,none⟩)∧T' 5 = .int .i64 y23∧T' 39 = .bool c42∧qcr fu r10 y23 rec24 d40 c42=some r) ?_ ?_
 have hF252:=Qg w.heap.size noX M18
 refine Qi <|Qc (Qe (.int .i64 y23) hT19_5) <|Qc (Zv rfl rfl) <|Qc (Qe (.bool (decide (y23<32))) rfl) ?_
 rcases ic hz with ⟨hc253,hz⟩ | ⟨hc253,hz⟩<;>rw [hc253]
 refine Qk rfl rfl (Qm (.pointer (some ⟨bP0_9,0,none⟩)) q49 hT19_3 (hS.bvB 0 rfl) (rr (Kb (M:=M)))) <|Qk rfl rfl (Qe (.int .i64 y23) hT19_5) ?_
 obtain ⟨r256,hr255,hz⟩:=Qb hz
 refine Kf rfl rfl (Zl (vs:=[.pointer (some ⟨bP0_9,0,none⟩),.int .i64 y23]) (L:=[.box bP0_9 cs20 90]) (R:=[.box b13 [.pointer (some ⟨bP0_9,0,none⟩)] 23,.stk uP6_9 9 1 xP6_9]) (rv:=(fun M' u L' => ∃ c0,u = .agg c0.toArray∧L'=[.box bP0_9 cs20 90]∧rep M' c0 r256)) cb20 (Z8 rfl rfl) hS (hS.sel [1,0,2] (by decide) rfl) (fun hS=>qt3 hS hb20 hr255) ?_)
 rintro u255 M255 w254 L255 hx255 ⟨c0_255,rfl,hL255,f255_0⟩ hS
 replace hS:=hS _ hL255
 replace hb20:=Rep.mono hx255.1 hb20
 replace hF252:=Qd hF252 hx255
 refine Qk rfl rfl (q7t (.bool r256.begun) q8j rfl (GCase.p0 (rr f255_0))) <|Qc (Zy (.bool r256.begun) rfl rfl) ?_
 refine Qf (Qa ?_)
 exact ⟨M255,cs20,d21,r256.begun,hF252,(hS.sel (H':=[.box b13 [.pointer (some ⟨bP0_9,0,none⟩)] 23,.box bP0_9 cs20 90,.stk uP6_9 9 1 xP6_9]) [1,0,2] (by decide) rfl),hb20,hp22,hT19_3,hT19_5,rfl,hz⟩
 refine Q2 5 rfl ?_
 refine Qf (Qa ?_)
 exact ⟨M18,cs20,d21,false,hF252,hS,hb20,hp22,hT19_3,hT19_5,rfl,hz⟩
 rintro T38 w36 ⟨M37,cs39,d40,c42,hx43,hS,hb39,hp41,hT38_3,hT38_5,hT38_39,hz⟩
 replace f9_1:=Zn hx43.1 f9_1
 replace hF35:=Qd hF35 hx43
 rw [qcr] at hz
 refine Qr hT38_39 (fun hc44 => ?_) (fun hc44 => ?_)
 replace hz:=Qn hz hc44
 refine Qt (Qa ?_)
 exact ⟨M37,cs39,d40,hF35,hS,hb39,hp41,hT38_3,hT38_5,hz⟩
 replace hz:=Qo hz hc44
 refine Zq <|Qy <|Qy <|Zs ?_
 refine (Qa ?_)
 refine Qh <|Qh <|Qi <|Qc (Qe (.int .i64 y23) hT38_5) <|Qc (Yr rfl rfl) ?_
 refine Qf (Qa ?_)
 refine Qr rfl (fun hc45 => ?_) (fun hc45 => ?_)
 replace hz:=Qn hz hc45
 refine Qh <|Qi <|Qc (Qj (.bool true) rfl) ?_
 refine Qf (Qa ?_)
 cases hz
 exact Q4 (Qq (Yg rfl rfl ⟨rfl,(Ql (Ql (Ql hS))).kept⟩))
 replace hz:=Qo hz hc45
 refine Qt (Qa ?_)
 refine Qh <|Qi <|Qc (Y_mf (Zu hT38_3)) <|Qc (Qj (.func (.func 31) #[] #[.pointer (some ⟨b13,0,none⟩)]) rfl) ?_
 refine Qf (Qa ?_)
 refine Qh <|Qh <|Qi <|Qc (Qe (.int .i64 0) rfl) ?_
 refine Qf (Qa ?_)
 refine Qv ?_
 refine Zw (fun k58 T' w' => ∃ M47 cs49 d50 v51 xs52 l53 y56,Mm.ext w.heap.size noX M37 M47∧St w noX M47 [.box b13 [.pointer (some ⟨bP0_9,0,none⟩)] 23,.box bP0_9 cs49 90,.stk v51 9 1 xs52] w'∧rep M47 cs49 d50∧skr M47 v51 xs52 l53∧sl cs49 (0+1993) 1=[v51]∧T' 3 = .pointer (some ⟨b13,0,none⟩)∧T' 5 = .int .i64 y23∧T' 6 = .func (.func 31) #[] #[.pointer (some ⟨b13,0,none⟩)]∧T' 45 = .int .i64 y56∧qb6 fu y23 k58 d50 l53 y56=some r) fu ?_ ?_ ?_
 exact ⟨M37,cs39,d40,uP6_9,xP6_9,r10.2.2,(0:Int),(Qg _ _ _),hS,hb39,f9_1,hp41,hT38_3,hT38_5,rfl,rfl,hz⟩
 rintro T' w' ⟨_,_,_,_,_,_,_,_,_,_,_,_,_,_,_,_,hz⟩
 rw [qb6] at hz
 cases hz
 intro k58
 rintro T48 w46 ⟨M47,cs49,d50,v51,xs52,l53,y56,hx60,hS,hb49,hk54,hp55,hT48_3,hT48_5,hT48_6,hT48_45,hz⟩
 have hF59:=hx60
 rw [qb6] at hz
 obtain ⟨rec57,hrec57⟩ : ∃ f,f=qb6 fu y23 k58:=⟨_,rfl⟩
 rw [← hrec57] at hz
 refine Qh <|Qi <|Qc (Zv hT48_45 rfl) ?_
 refine Qf (Qa ?_)
 refine Qh ?_
 refine Qr rfl (fun hc61 => ?_) (fun hc61 => ?_)
 replace hz:=Qn hz hc61
 refine Qt (Qa ?_)
 refine Qh <|Qv <|Qh <|Qi <|Qc (Qe (.int .i64 y56) hT48_45) <|Qc (Qj (.int .i64 y56) rfl) ?_
 refine Qf (Qa ?_)
 refine Qh <|Qi <|Qc (Qe (.func (.func 31) #[] #[.pointer (some ⟨b13,0,none⟩)]) hT48_6) <|Qc (Qe (.int .i64 y56) rfl) ?_
 have k62_0:=Jh (Zr.zr:rep M47 (Zr.zc GAct) (Zr.zd:GAct)) (ri 6:rep M47 _ _)
 have k62_1:=GAct.w1 k62_0 (ri y56:rep M47 _ _)
 obtain ⟨d63,hd62,hz⟩:=Qb hz
 obtain ⟨cs62,hf62,ha62⟩ : ∃ cs,qbj (([(0,1),(1,1),(2,1),(3,1)]:List (Nat × Nat))[·]?) (Zr.zc GAct) [(0,.int .i64 6),(1,.int .i64 y56)]=some cs∧rep M47 cs d63:=⟨_,(Q9 (Zr.zr:rep M47 (Zr.zc GAct) (Zr.zd:GAct)) rfl rfl (Rep.len (ri 6:rep M47 _ _)) (by decide) (Q9 k62_0 rfl rfl (Rep.len (ri y56:rep M47 _ _)) (by decide) Z2)),Z3 (x:=({ kind:=6,n:=y56,m:=Zr.zd,ops:=Zr.zd }:GAct)) k62_1 hd62⟩
 refine Qc (Zt [(0,.int .i64 6),(1,.int .i64 y56)] q54 (Ym rfl (Ym rfl Vb)) hf62) ?_
 obtain ⟨r67,hr66,hz⟩:=Qb hz
 refine Qs (qt9 rfl (Zl (vs:=[.agg cs62.toArray,.pointer (some ⟨b13,0,none⟩)]) (L:=[.box b13 [.pointer (some ⟨bP0_9,0,none⟩)] 23,.box bP0_9 cs49 90,.stk v51 9 1 xs52]) (R:=[]) (rv:=(fun M' u L' => ∃ k1 u2 x2,u = .int .i64 r67.1∧L'=[.box b13 [.pointer (some ⟨bP0_9,0,none⟩)] 23,.box bP0_9 k1 90,.stk u2 9 1 x2]∧rep M' k1 r67.2.1∧skr M' u2 x2 r67.2.2∧sl k1 1993 1=[u2])) q8t (qua rfl) hS (hS.sel [0,1,2] (by decide) rfl) (fun hS=>qha hS ha62 hb49 hk54 hp55 hr66)) ?_)
 rintro u66 M66 w65 L66 hx66 ⟨k1_66,u2_66,x2_66,rfl,hL66,f66_0,f66_1,f66_2⟩ hS
 replace hS:=hS _ hL66
 refine Qf (Qa ?_)
 refine Qh <|Qi <|Qc (Qe (.func (.func 31) #[] #[.pointer (some ⟨b13,0,none⟩)]) hT48_6) <|Qc (Qe (.int .i64 y56) rfl) ?_
 have k68_0:=Jh (Zr.zr:rep M66 (Zr.zc GAct) (Zr.zd:GAct)) (ri 8:rep M66 _ _)
 have k68_1:=GAct.w1 k68_0 (ri y56:rep M66 _ _)
 obtain ⟨d69,hd68,hz⟩:=Qb hz
 obtain ⟨cs68,hf68,ha68⟩ : ∃ cs,qbj (([(0,1),(1,1),(2,1),(3,1)]:List (Nat × Nat))[·]?) (Zr.zc GAct) [(0,.int .i64 8),(1,.int .i64 y56)]=some cs∧rep M66 cs d69:=⟨_,(Q9 (Zr.zr:rep M66 (Zr.zc GAct) (Zr.zd:GAct)) rfl rfl (Rep.len (ri 8:rep M66 _ _)) (by decide) (Q9 k68_0 rfl rfl (Rep.len (ri y56:rep M66 _ _)) (by decide) Z2)),Z3 (x:=({ kind:=8,n:=y56,m:=Zr.zd,ops:=Zr.zd }:GAct)) k68_1 hd68⟩
 refine Qc (Zt [(0,.int .i64 8),(1,.int .i64 y56)] q54 (Ym rfl (Ym rfl Vb)) hf68) ?_
 obtain ⟨r73,hr72,hz⟩:=Qb hz
 refine Qs (qt9 rfl (Zl (vs:=[.agg cs68.toArray,.pointer (some ⟨b13,0,none⟩)]) (L:=[.box b13 [.pointer (some ⟨bP0_9,0,none⟩)] 23,.box bP0_9 k1_66 90,.stk u2_66 9 1 x2_66]) (R:=[]) (rv:=(fun M' u L' => ∃ k1 u2 x2,u = .int .i64 r73.1∧L'=[.box b13 [.pointer (some ⟨bP0_9,0,none⟩)] 23,.box bP0_9 k1 90,.stk u2 9 1 x2]∧rep M' k1 r73.2.1∧skr M' u2 x2 r73.2.2∧sl k1 1993 1=[u2])) q8t (qua rfl) hS (hS.sel [0,1,2] (by decide) rfl) (fun hS=>qha hS ha68 f66_0 f66_1 f66_2 hr72)) ?_)
 rintro u72 M72 w71 L72 hx72 ⟨k1_72,u2_72,x2_72,rfl,hL72,f72_0,f72_1,f72_2⟩ hS
 replace hS:=hS _ hL72
 replace hF59:=Qd hF59 (hx66.trans hx72)
 refine Qc (Yl rfl rfl) ?_
 refine Qf (Qa ?_)
 refine Qr rfl (fun hc74 => ?_) (fun hc74 => ?_)
 replace hz:=Qn hz hc74
 refine Qh <|Qi <|Qc (Qj (.bool false) rfl) ?_
 refine Qf (Qa ?_)
 cases hz
 exact Q4 (Zb (Qq (Qq (Zb (Qq (Yg rfl rfl ⟨rfl,(Ql (Ql (Ql hS))).kept⟩))))))
 replace hz:=Qo hz hc74
 refine Qt (Za ?_)
 refine (Qa ?_)
 refine Qi <|Qc (Zz hT48_45 rfl) <|Qc (Qe (.int .i64 (IntKind.wrap .i64 (y56+1))) rfl) ?_
 refine Qf (Qa ?_)
 exact ⟨M72,k1_72,r73.2.1,u2_72,x2_72,r73.2.2,(IntKind.wrap .i64 (y56+1)),hF59,hS,f72_0,f72_1,f72_2,hT48_3,hT48_5,hT48_6,rfl,(by rw [← hrec57];exact hz)⟩
 replace hz:=Qo hz hc61
 refine Zq <|Qy <|Qy <|Zs ?_
 refine (Qa ?_)
 refine Qh <|Qv ?_
 refine Zw (fun k86 T' w' => ∃ M76 cs78 d79 v80 xs81 l82,Mm.ext w.heap.size noX M47 M76∧St w noX M76 [.box b13 [.pointer (some ⟨bP0_9,0,none⟩)] 23,.box bP0_9 cs78 90,.stk v80 9 1 xs81] w'∧rep M76 cs78 d79∧skr M76 v80 xs81 l82∧sl cs78 (0+1993) 1=[v80]∧T' 3 = .pointer (some ⟨b13,0,none⟩)∧T' 5 = .int .i64 y23∧T' 6 = .func (.func 31) #[] #[.pointer (some ⟨b13,0,none⟩)]∧qb5 fu y23 k86 d79 l82=some r) fu ?_ ?_ ?_
 exact ⟨M47,cs49,d50,v51,xs52,l53,(Qg _ _ _),hS,hb49,hk54,hp55,hT48_3,hT48_5,hT48_6,hz⟩
 rintro T' w' ⟨_,_,_,_,_,_,_,_,_,_,_,_,_,_,hz⟩
 rw [qb5] at hz
 cases hz
 intro k86
 rintro T77 w75 ⟨M76,cs78,d79,v80,xs81,l82,hx88,hS,hb78,hk83,hp84,hT77_3,hT77_5,hT77_6,hz⟩
 have hF87:=hx88
 rw [qb5] at hz
 obtain ⟨rec85,hrec85⟩ : ∃ f,f=qb5 fu y23 k86:=⟨_,rfl⟩
 rw [← hrec85] at hz
 refine Qh <|Qh <|Qi <|Qc (Qm (.pointer (some ⟨bP0_9,0,none⟩)) q49 hT77_3 (hS.bvB 0 rfl) (rr (Kb (M:=M)))) ?_
 obtain ⟨r91,hr90,hz⟩:=Qb hz
 refine Qs (Zl (vs:=[.pointer (some ⟨bP0_9,0,none⟩)]) (L:=[.box bP0_9 cs78 90,.stk v80 9 1 xs81]) (R:=[.box b13 [.pointer (some ⟨bP0_9,0,none⟩)] 23]) (rv:=(fun M' u L' => ∃ v0 u1 x1,u=v0∧L'=[.box bP0_9 cs78 90,.stk u1 9 1 x1]∧repL M' v0 r91.1∧skr M' u1 x1 r91.2∧sl cs78 1993 1=[u1])) za5 (Zu rfl) hS (hS.sel [1,2,0] (by decide) rfl) (fun hS=>qsb hS hb78 hk83 hp84 hr90) ?_)
 rintro u90 M90 w89 L90 hx90 ⟨v0_90,u1_90,x1_90,rfl,hL90,f90_0,f90_1,f90_2⟩ hS
 replace hS:=hS _ hL90
 replace hb78:=Rep.mono hx90.1 hb78
 replace hF87:=Qd hF87 hx90
 obtain ⟨a92,c92,hv92,_⟩:=Q3 f90_0
 refine Qc (Zj Yn (Vv hv92 rfl)) <|Qc (Yr rfl rfl) ?_
 refine Qf (Qa ?_)
 refine Qr rfl (fun hc93 => ?_) (fun hc93 => ?_)
 replace hz:=Qn hz hc93
 refine Qt (Qa ?_)
 refine Qv <|Qh <|Qi <|Qc (Qe (.func (.func 31) #[] #[.pointer (some ⟨b13,0,none⟩)]) hT77_6) ?_
 have k94_0:=Jh (Zr.zr:rep M90 (Zr.zc GAct) (Zr.zd:GAct)) (ri 4:rep M90 _ _)
 obtain ⟨d95,hd94,hz⟩:=Qb hz
 obtain ⟨cs94,hf94,ha94⟩ : ∃ cs,qbj (([(0,1),(1,1),(2,1),(3,1)]:List (Nat × Nat))[·]?) (Zr.zc GAct) [(0,.int .i64 4)]=some cs∧rep M90 cs d95:=⟨_,(Q9 (Zr.zr:rep M90 (Zr.zc GAct) (Zr.zd:GAct)) rfl rfl (Rep.len (ri 4:rep M90 _ _)) (by decide) Z2),Z3 (x:=({ kind:=4,n:=Zr.zd,m:=Zr.zd,ops:=Zr.zd }:GAct)) k94_0 hd94⟩
 refine Qc (Zt [(0,.int .i64 4)] q54 (Ym rfl Vb) hf94) ?_
 obtain ⟨r99,hr98,hz⟩:=Qb hz
 refine Qs (qt9 rfl (Zl (vs:=[.agg cs94.toArray,.pointer (some ⟨b13,0,none⟩)]) (L:=[.box b13 [.pointer (some ⟨bP0_9,0,none⟩)] 23,.box bP0_9 cs78 90,.stk u1_90 9 1 x1_90]) (R:=[]) (rv:=(fun M' u L' => ∃ k1 u2 x2,u = .int .i64 r99.1∧L'=[.box b13 [.pointer (some ⟨bP0_9,0,none⟩)] 23,.box bP0_9 k1 90,.stk u2 9 1 x2]∧rep M' k1 r99.2.1∧skr M' u2 x2 r99.2.2∧sl k1 1993 1=[u2])) q8t (qua rfl) hS (hS.sel [2,0,1] (by decide) rfl) (fun hS=>qha hS ha94 hb78 f90_1 f90_2 hr98)) ?_)
 rintro u98 M98 w97 L98 hx98 ⟨k1_98,u2_98,x2_98,rfl,hL98,f98_0,f98_1,f98_2⟩ hS
 replace hS:=hS _ hL98
 replace hF87:=Qd hF87 hx98
 refine Qc (Yl rfl rfl) ?_
 refine Qf (Qa ?_)
 refine Qr rfl (fun hc100 => ?_) (fun hc100 => ?_)
 replace hz:=Qn hz hc100
 refine Qh <|Qi <|Qc (Qj (.bool false) rfl) ?_
 refine Qf (Qa ?_)
 cases hz
 exact Q4 (Zb (Qq (Zb (Qq (Yg rfl rfl ⟨rfl,(Ql (Ql (Ql hS))).kept⟩)))))
 replace hz:=Qo hz hc100
 refine Qt (Za ?_)
 refine (Qa ?_)
 exact ⟨M98,k1_98,r99.2.1,u2_98,x2_98,r99.2.2,hF87,hS,f98_0,f98_1,f98_2,hT77_3,hT77_5,hT77_6,(by rw [← hrec85];exact hz)⟩
 replace hz:=Qo hz hc93
 refine Zq <|Qy <|Qy <|Zs ?_
 refine (Qa ?_)
 refine Qh <|Qh <|Qi <|Qc (Qe (.int .i64 0) rfl) ?_
 refine Qf (Qa ?_)
 refine Qv ?_
 refine Zw (fun k113 T' w' => ∃ M102 cs104 d105 v106 xs107 l108 y111,Mm.ext w.heap.size noX M90 M102∧St w noX M102 [.box bP0_9 cs104 90,.stk v106 9 1 xs107,.box b13 [.pointer (some ⟨bP0_9,0,none⟩)] 23] w'∧rep M102 cs104 d105∧skr M102 v106 xs107 l108∧sl cs104 (0+1993) 1=[v106]∧T' 3 = .pointer (some ⟨b13,0,none⟩)∧T' 5 = .int .i64 y23∧T' 6 = .func (.func 31) #[] #[.pointer (some ⟨b13,0,none⟩)]∧T' 66 = .int .i64 y111∧qao fu y23 k113 d105 l108 y111=some r) fu ?_ ?_ ?_
 exact ⟨M90,cs78,d79,u1_90,x1_90,r91.2,(0:Int),(Qg _ _ _),hS,hb78,f90_1,f90_2,hT77_3,hT77_5,hT77_6,rfl,hz⟩
 rintro T' w' ⟨_,_,_,_,_,_,_,_,_,_,_,_,_,_,_,_,hz⟩
 rw [qao] at hz
 cases hz
 intro k113
 rintro T103 w101 ⟨M102,cs104,d105,v106,xs107,l108,y111,hx115,hS,hb104,hk109,hp110,hT103_3,hT103_5,hT103_6,hT103_66,hz⟩
 have hF114:=hx115
 rw [qao] at hz
 obtain ⟨rec112,hrec112⟩ : ∃ f,f=qao fu y23 k113:=⟨_,rfl⟩
 rw [← hrec112] at hz
 refine Qh <|Qi <|Qc (Zv hT103_66 rfl) ?_
 refine Qf (Qa ?_)
 refine Qh ?_
 refine Qr rfl (fun hc116 => ?_) (fun hc116 => ?_)
 replace hz:=Qn hz hc116
 refine Qt (Qa ?_)
 refine Qh <|Qv <|Qh <|Qi <|Qc (Qe (.int .i64 y23) hT103_5) <|Qc (Qe (.int .i64 0) rfl) ?_
 refine Qf (Qa ?_)
 refine Qv ?_
 refine Zw (fun k129 T' w' => ∃ M118 cs120 d121 v122 xs123 l124 y127,Mm.ext w.heap.size noX M102 M118∧St w noX M118 [.box bP0_9 cs120 90,.stk v122 9 1 xs123,.box b13 [.pointer (some ⟨bP0_9,0,none⟩)] 23] w'∧rep M118 cs120 d121∧skr M118 v122 xs123 l124∧sl cs120 (0+1993) 1=[v122]∧T' 3 = .pointer (some ⟨b13,0,none⟩)∧T' 5 = .int .i64 y23∧T' 6 = .func (.func 31) #[] #[.pointer (some ⟨b13,0,none⟩)]∧T' 66 = .int .i64 y111∧T' 68 = .int .i64 y23∧T' 69 = .int .i64 y127∧qbg fu y23 y111 rec112 k129 d121 l124 y127=some r) fu ?_ ?_ ?_
 exact ⟨M102,cs104,d105,v106,xs107,l108,(0:Int),(Qg _ _ _),hS,hb104,hk109,hp110,hT103_3,hT103_5,hT103_6,hT103_66,rfl,rfl,hz⟩
 rintro T' w' ⟨_,_,_,_,_,_,_,_,_,_,_,_,_,_,_,_,_,_,hz⟩
 rw [qbg] at hz
 cases hz
 intro k129
 rintro T119 w117 ⟨M118,cs120,d121,v122,xs123,l124,y127,hx131,hS,hb120,hk125,hp126,hT119_3,hT119_5,hT119_6,hT119_66,hT119_68,hT119_69,hz⟩
 replace hF114:=Qd hF114 hx131
 have hF130:=hx131
 rw [qbg] at hz
 obtain ⟨rec128,hrec128⟩ : ∃ f,f=qbg fu y23 y111 rec112 k129:=⟨_,rfl⟩
 rw [← hrec128] at hz
 refine Qh <|Qi <|Qc (Zv hT119_69 hT119_68) ?_
 refine Qf (Qa ?_)
 refine Qh ?_
 refine Qr rfl (fun hc132 => ?_) (fun hc132 => ?_)
 replace hz:=Qn hz hc132
 refine Qt (Qa ?_)
 refine Qh <|Qv <|Qh <|Qi <|Qc (Qe (.int .i64 y127) hT119_69) <|Qc (Qj (.int .i64 y127) rfl) ?_
 refine Qf (Qa ?_)
 refine Qh <|Qi <|Qc (Qe (.func (.func 31) #[] #[.pointer (some ⟨b13,0,none⟩)]) hT119_6) <|Qc (Qe (.int .i64 y127) rfl) ?_
 have k133_0:=Jh (Zr.zr:rep M118 (Zr.zc GAct) (Zr.zd:GAct)) (ri 5:rep M118 _ _)
 have k133_1:=GAct.w1 k133_0 (ri y127:rep M118 _ _)
 obtain ⟨d134,hd133,hz⟩:=Qb hz
 obtain ⟨cs133,hf133,ha133⟩ : ∃ cs,qbj (([(0,1),(1,1),(2,1),(3,1)]:List (Nat × Nat))[·]?) (Zr.zc GAct) [(0,.int .i64 5),(1,.int .i64 y127)]=some cs∧rep M118 cs d134:=⟨_,(Q9 (Zr.zr:rep M118 (Zr.zc GAct) (Zr.zd:GAct)) rfl rfl (Rep.len (ri 5:rep M118 _ _)) (by decide) (Q9 k133_0 rfl rfl (Rep.len (ri y127:rep M118 _ _)) (by decide) Z2)),Z3 (x:=({ kind:=5,n:=y127,m:=Zr.zd,ops:=Zr.zd }:GAct)) k133_1 hd133⟩
 refine Qc (Zt [(0,.int .i64 5),(1,.int .i64 y127)] q54 (Ym rfl (Ym rfl Vb)) hf133) ?_
 obtain ⟨r138,hr137,hz⟩:=Qb hz
 refine Qs (qt9 rfl (Zl (vs:=[.agg cs133.toArray,.pointer (some ⟨b13,0,none⟩)]) (L:=[.box b13 [.pointer (some ⟨bP0_9,0,none⟩)] 23,.box bP0_9 cs120 90,.stk v122 9 1 xs123]) (R:=[]) (rv:=(fun M' u L' => ∃ k1 u2 x2,u = .int .i64 r138.1∧L'=[.box b13 [.pointer (some ⟨bP0_9,0,none⟩)] 23,.box bP0_9 k1 90,.stk u2 9 1 x2]∧rep M' k1 r138.2.1∧skr M' u2 x2 r138.2.2∧sl k1 1993 1=[u2])) q8t (qua rfl) hS (hS.sel [2,0,1] (by decide) rfl) (fun hS=>qha hS ha133 hb120 hk125 hp126 hr137)) ?_)
 rintro u137 M137 w136 L137 hx137 ⟨k1_137,u2_137,x2_137,rfl,hL137,f137_0,f137_1,f137_2⟩ hS
 replace hS:=hS _ hL137
 replace hF130:=Qd hF130 hx137
 refine Qf (Qa ?_)
 refine Qv ?_
 refine Zw (fun k150 T' w' => ∃ M140 cs142 d143 v144 xs145 l146,Mm.ext w.heap.size noX M137 M140∧St w noX M140 [.box b13 [.pointer (some ⟨bP0_9,0,none⟩)] 23,.box bP0_9 cs142 90,.stk v144 9 1 xs145] w'∧rep M140 cs142 d143∧skr M140 v144 xs145 l146∧sl cs142 (0+1993) 1=[v144]∧T' 3 = .pointer (some ⟨b13,0,none⟩)∧T' 5 = .int .i64 y23∧T' 6 = .func (.func 31) #[] #[.pointer (some ⟨b13,0,none⟩)]∧T' 66 = .int .i64 y111∧T' 68 = .int .i64 y23∧T' 69 = .int .i64 y127∧qb2 fu y127 rec128 k150 d143 l146=some r) fu ?_ ?_ ?_
 exact ⟨M137,k1_137,r138.2.1,u2_137,x2_137,r138.2.2,(Qg _ _ _),hS,f137_0,f137_1,f137_2,hT119_3,hT119_5,hT119_6,hT119_66,hT119_68,hT119_69,hz⟩
 rintro T' w' ⟨_,_,_,_,_,_,_,_,_,_,_,_,_,_,_,_,_,hz⟩
 rw [qb2] at hz
 cases hz
 intro k150
 rintro T141 w139 ⟨M140,cs142,d143,v144,xs145,l146,hx152,hS,hb142,hk147,hp148,hT141_3,hT141_5,hT141_6,hT141_66,hT141_68,hT141_69,hz⟩
 replace hF130:=Qd hF130 hx152
 have hF151:=hx152
 rw [qb2] at hz
 obtain ⟨rec149,hrec149⟩ : ∃ f,f=qb2 fu y127 rec128 k150:=⟨_,rfl⟩
 rw [← hrec149] at hz
 refine Qh <|Qh <|Qi <|Qc (Qm (.pointer (some ⟨bP0_9,0,none⟩)) q49 hT141_3 (hS.bvB 0 rfl) (rr (Kb (M:=M)))) ?_
 obtain ⟨r155,hr154,hz⟩:=Qb hz
 refine Qs (Zl (vs:=[.pointer (some ⟨bP0_9,0,none⟩)]) (L:=[.box bP0_9 cs142 90,.stk v144 9 1 xs145]) (R:=[.box b13 [.pointer (some ⟨bP0_9,0,none⟩)] 23]) (rv:=(fun M' u L' => ∃ v0 u1 x1,u=v0∧L'=[.box bP0_9 cs142 90,.stk u1 9 1 x1]∧repL M' v0 r155.1∧skr M' u1 x1 r155.2∧sl cs142 1993 1=[u1])) za5 (Zu rfl) hS (hS.sel [1,2,0] (by decide) rfl) (fun hS=>qsb hS hb142 hk147 hp148 hr154) ?_)
 rintro u154 M154 w153 L154 hx154 ⟨v0_154,u1_154,x1_154,rfl,hL154,f154_0,f154_1,f154_2⟩ hS
 replace hS:=hS _ hL154
 replace hb142:=Rep.mono hx154.1 hb142
 replace hF130:=Qd hF130 hx154
 replace hF151:=Qd hF151 hx154
 obtain ⟨a156,c156,hv156,_⟩:=Q3 f154_0
 refine Qc (Zj Yn (Vv hv156 rfl)) <|Qc (Yr rfl rfl) ?_
 refine Qf (Qa ?_)
 refine Qr rfl (fun hc157 => ?_) (fun hc157 => ?_)
 replace hz:=Qn hz hc157
 refine Qt (Qa ?_)
 refine Qv <|Qh <|Qi <|Qc (Qe (.func (.func 31) #[] #[.pointer (some ⟨b13,0,none⟩)]) hT141_6) ?_
 have k158_0:=Jh (Zr.zr:rep M154 (Zr.zc GAct) (Zr.zd:GAct)) (ri 2:rep M154 _ _)
 obtain ⟨d159,hd158,hz⟩:=Qb hz
 obtain ⟨cs158,hf158,ha158⟩ : ∃ cs,qbj (([(0,1),(1,1),(2,1),(3,1)]:List (Nat × Nat))[·]?) (Zr.zc GAct) [(0,.int .i64 2)]=some cs∧rep M154 cs d159:=⟨_,(Q9 (Zr.zr:rep M154 (Zr.zc GAct) (Zr.zd:GAct)) rfl rfl (Rep.len (ri 2:rep M154 _ _)) (by decide) Z2),Z3 (x:=({ kind:=2,n:=Zr.zd,m:=Zr.zd,ops:=Zr.zd }:GAct)) k158_0 hd158⟩
 refine Qc (Zt [(0,.int .i64 2)] q54 (Ym rfl Vb) hf158) ?_
 obtain ⟨r163,hr162,hz⟩:=Qb hz
 refine Qs (qt9 rfl (Zl (vs:=[.agg cs158.toArray,.pointer (some ⟨b13,0,none⟩)]) (L:=[.box b13 [.pointer (some ⟨bP0_9,0,none⟩)] 23,.box bP0_9 cs142 90,.stk u1_154 9 1 x1_154]) (R:=[]) (rv:=(fun M' u L' => ∃ k1 u2 x2,u = .int .i64 r163.1∧L'=[.box b13 [.pointer (some ⟨bP0_9,0,none⟩)] 23,.box bP0_9 k1 90,.stk u2 9 1 x2]∧rep M' k1 r163.2.1∧skr M' u2 x2 r163.2.2∧sl k1 1993 1=[u2])) q8t (qua rfl) hS (hS.sel [2,0,1] (by decide) rfl) (fun hS=>qha hS ha158 hb142 f154_1 f154_2 hr162)) ?_)
 rintro u162 M162 w161 L162 hx162 ⟨k1_162,u2_162,x2_162,rfl,hL162,f162_0,f162_1,f162_2⟩ hS
 replace hS:=hS _ hL162
 replace hF151:=Qd hF151 hx162
 refine Qc (Yd rfl rfl) ?_
 refine Qf (Qa ?_)
 refine Qr rfl (fun hc164 => ?_) (fun hc164 => ?_)
 replace hz:=Qn hz hc164
 refine Qh <|Qi <|Qc (Qj (.bool false) rfl) ?_
 refine Qf (Qa ?_)
 cases hz
 exact Q4 (Zb (Qq (Zb (Zb (Qq (Qq (Zb (Zb (Qq (Qq (Zb (Qq (Yg rfl rfl ⟨rfl,(Ql (Ql (Ql hS))).kept⟩)))))))))))))
 replace hz:=Qo hz hc164
 refine Qt (Za ?_)
 refine (Qa ?_)
 exact ⟨M162,k1_162,r163.2.1,u2_162,x2_162,r163.2.2,hF151,hS,f162_0,f162_1,f162_2,hT141_3,hT141_5,hT141_6,hT141_66,hT141_68,hT141_69,(by rw [← hrec149];exact hz)⟩
 replace hz:=Qo hz hc157
 refine Zq <|Qy <|Qy <|Zs ?_
 refine (Za ?_)
 refine (Qa ?_)
 refine Qi <|Qc (Zz hT141_69 rfl) <|Qc (Qe (.int .i64 (IntKind.wrap .i64 (y127+1))) rfl) ?_
 refine Qf (Qa ?_)
 exact ⟨M154,cs142,d143,u1_154,x1_154,r155.2,(IntKind.wrap .i64 (y127+1)),hF130,hS,hb142,f154_1,f154_2,hT141_3,hT141_5,hT141_6,hT141_66,hT141_68,rfl,(by rw [← hrec128];exact hz)⟩
 replace hz:=Qo hz hc132
 refine Zq <|Qy <|Qy <|Zs ?_
 refine (Za ?_)
 refine (Qa ?_)
 refine Qi <|Qc (Zz hT119_66 rfl) <|Qc (Qe (.int .i64 (IntKind.wrap .i64 (y111+1))) rfl) ?_
 refine Qf (Qa ?_)
 exact ⟨M118,cs120,d121,v122,xs123,l124,(IntKind.wrap .i64 (y111+1)),hF114,hS,hb120,hk125,hp126,hT119_3,hT119_5,hT119_6,rfl,(by rw [← hrec112];exact hz)⟩
 replace hz:=Qo hz hc116
 refine Zq <|Qy <|Qy <|Zs ?_
 refine (Qa ?_)
 refine Qh <|Qh <|Qi <|Qc (Qe (.int .i64 y23) hT103_5) <|Qc (Qe (.int .i64 0) rfl) ?_
 refine Qf (Qa ?_)
 refine Qv ?_
 refine Zw (fun k177 T' w' => ∃ M166 cs168 d169 v170 xs171 l172 y175,Mm.ext w.heap.size noX M102 M166∧St w noX M166 [.box bP0_9 cs168 90,.stk v170 9 1 xs171,.box b13 [.pointer (some ⟨bP0_9,0,none⟩)] 23] w'∧rep M166 cs168 d169∧skr M166 v170 xs171 l172∧sl cs168 (0+1993) 1=[v170]∧T' 3 = .pointer (some ⟨b13,0,none⟩)∧T' 86 = .int .i64 y23∧T' 87 = .int .i64 y175∧qbh fu y23 k177 d169 l172 y175=some r) fu ?_ ?_ ?_
 exact ⟨M102,cs104,d105,v106,xs107,l108,(0:Int),(Qg _ _ _),hS,hb104,hk109,hp110,hT103_3,rfl,rfl,hz⟩
 rintro T' w' ⟨_,_,_,_,_,_,_,_,_,_,_,_,_,_,_,hz⟩
 rw [qbh] at hz
 cases hz
 intro k177
 rintro T167 w165 ⟨M166,cs168,d169,v170,xs171,l172,y175,hx179,hS,hb168,hk173,hp174,hT167_3,hT167_86,hT167_87,hz⟩
 have hF178:=hx179
 rw [qbh] at hz
 obtain ⟨rec176,hrec176⟩ : ∃ f,f=qbh fu y23 k177:=⟨_,rfl⟩
 rw [← hrec176] at hz
 refine Qh <|Qi <|Qc (Zv hT167_87 hT167_86) ?_
 refine Qf (Qa ?_)
 refine Qh ?_
 refine Qr rfl (fun hc180 => ?_) (fun hc180 => ?_)
 replace hz:=Qn hz hc180
 refine Qt (Qa ?_)
 refine Qh <|Qv <|Qh <|Qi <|Qc (Qe (.int .i64 y175) hT167_87) <|Qc (Qj (.int .i64 y175) rfl) ?_
 refine Qf (Qa ?_)
 refine Qh <|Qh <|Qi <|Qc (Qm (.pointer (some ⟨bP0_9,0,none⟩)) q49 hT167_3 (hS.bvB 2 rfl) (rr (Kb (M:=M)))) <|Qc (Qe (.int .i64 y175) rfl) ?_
 obtain ⟨r183,hr182,hz⟩:=Qb hz
 refine Qs (Zl (vs:=[.pointer (some ⟨bP0_9,0,none⟩),.int .i64 y175]) (L:=[.box bP0_9 cs168 90]) (R:=[.stk v170 9 1 xs171,.box b13 [.pointer (some ⟨bP0_9,0,none⟩)] 23]) (rv:=(fun M' u L' => ∃ c0,u = .agg c0.toArray∧L'=[.box bP0_9 cs168 90]∧rep M' c0 r183)) cb20 (Z8 rfl rfl) hS (hS.sel [0,1,2] (by decide) rfl) (fun hS=>qt3 hS hb168 hr182) ?_)
 rintro u182 M182 w181 L182 hx182 ⟨c0_182,rfl,hL182,f182_0⟩ hS
 replace hS:=hS _ hL182
 obtain ⟨r186,hr185,hz⟩:=Qb hz
 refine Qs (Y0 (vs:=[.agg c0_182.toArray]) (rv:=(fun M' u => ∃ v0,u = .tuple #[v0,.bool r186.2]∧repL M' v0 r186.1)) cb28 (Zu rfl) hS (qld hS.agree f182_0 hr185) ?_)
 intro u185 M185 w184 hx185 hu185 hS
 obtain ⟨v185_0,hq185,f185_0⟩:=hu185
 subst hq185
 replace hb168:=Rep.mono (hx182.1.trans hx185.1) hb168
 replace hk173:=Zn (hx182.1.trans hx185.1) hk173
 replace hF178:=Qd hF178 (hx182.trans hx185)
 refine Qc (Qe (.tuple #[v185_0,.bool r186.2]) rfl) <|Qc (Q7 (v:=v185_0) rfl rfl) <|Qc (Q7 (v := .bool r186.2) rfl rfl) <|Q2 2 rfl ?_
 refine Qf (Qa ?_)
 refine Qh <|Qi <|Qc (Qe (.bool r186.2) rfl) <|Qc (Ye rfl) ?_
 refine Qf (Qa ?_)
 refine Qr rfl (fun hc187 => ?_) (fun hc187 => ?_)
 replace hz:=Qn hz hc187
 refine Qh <|Qi <|Qc (Qj (.bool false) rfl) ?_
 refine Qf (Qa ?_)
 cases hz
 exact Q4 (Qq (Zb (Qq (Qq (Zb (Qq (Yg rfl rfl ⟨rfl,(Ql (Ql (Ql hS))).kept⟩)))))))
 replace hz:=Qo hz hc187
 refine Qt (Qa ?_)
 refine Qh <|Qi <|Qc (Qe (.int .i64 0) rfl) ?_
 refine Qf (Qa ?_)
 refine Qv ?_
 refine Zw (fun k200 T' w' => ∃ M189 cs191 d192 v193 xs194 l195 y198,Mm.ext w.heap.size noX M185 M189∧St w noX M189 [.box bP0_9 cs191 90,.stk v193 9 1 xs194,.box b13 [.pointer (some ⟨bP0_9,0,none⟩)] 23] w'∧rep M189 cs191 d192∧skr M189 v193 xs194 l195∧sl cs191 (0+1993) 1=[v193]∧T' 3 = .pointer (some ⟨b13,0,none⟩)∧T' 9 = .int .i64 y175∧T' 86 = .int .i64 y23∧T' 87 = .int .i64 y175∧T' 99 = .int .i64 y198∧qb3 fu y175 rec176 k200 d192 l195 y198=some r) fu ?_ ?_ ?_
 exact ⟨M185,cs168,d169,v170,xs171,l172,(0:Int),(Qg _ _ _),hS,hb168,hk173,hp174,hT167_3,rfl,hT167_86,hT167_87,rfl,hz⟩
 rintro T' w' ⟨_,_,_,_,_,_,_,_,_,_,_,_,_,_,_,_,_,hz⟩
 rw [qb3] at hz
 cases hz
 intro k200
 rintro T190 w188 ⟨M189,cs191,d192,v193,xs194,l195,y198,hx202,hS,hb191,hk196,hp197,hT190_3,hT190_9,hT190_86,hT190_87,hT190_99,hz⟩
 replace hF178:=Qd hF178 hx202
 have hF201:=hx202
 rw [qb3] at hz
 obtain ⟨rec199,hrec199⟩ : ∃ f,f=qb3 fu y175 rec176 k200:=⟨_,rfl⟩
 rw [← hrec199] at hz
 refine Qh <|Qi <|Qc (Zv hT190_99 rfl) ?_
 refine Qf (Qa ?_)
 refine Qh ?_
 refine Qr rfl (fun hc203 => ?_) (fun hc203 => ?_)
 replace hz:=Qn hz hc203
 refine Qt (Qa ?_)
 refine Qh <|Qv <|Qh <|Qi <|Qc (Qe (.int .i64 y198) hT190_99) <|Qc (Qj (.int .i64 y198) rfl) ?_
 refine Qf (Qa ?_)
 refine Qh <|Qi <|Qc (Qm (.pointer (some ⟨bP0_9,0,none⟩)) q49 hT190_3 (hS.bvB 2 rfl) (rr (Kb (M:=M)))) <|Qc (Qe (.int .i64 y198) rfl) ?_
 obtain ⟨r206,hr205,hz⟩:=Qb hz
 refine Qs (Zl (vs:=[.pointer (some ⟨bP0_9,0,none⟩),.int .i64 y198]) (L:=[.box bP0_9 cs191 90]) (R:=[.stk v193 9 1 xs194,.box b13 [.pointer (some ⟨bP0_9,0,none⟩)] 23]) (rv:=(fun M' u L' => ∃ c0,u = .tuple #[.agg c0.toArray,.bool r206.2]∧L'=[.box bP0_9 cs191 90]∧rep M' c0 r206.1)) q9l (Z8 rfl rfl) hS (hS.sel [0,1,2] (by decide) rfl) (fun hS=>qlq hS hb191 hr205) ?_)
 rintro u205 M205 w204 L205 hx205 ⟨c0_205,rfl,hL205,f205_0⟩ hS
 replace hS:=hS _ hL205
 replace hb191:=Rep.mono hx205.1 hb191
 replace hk196:=Zn hx205.1 hk196
 replace hF201:=Qd hF201 hx205
 refine Qc (Qe (.tuple #[.agg c0_205.toArray,.bool r206.2]) rfl) <|Qc (Q7 (v := .agg c0_205.toArray) rfl rfl) <|Qc (Q7 (v := .bool r206.2) rfl rfl) ?_
 refine Qs (Zg qxo hS ?_)
 intro b208 w207 hb208 hS
 have zb208:rep M205 (Zr.zc GNode) (Zr.zd:GNode):=Zr.zr
 obtain ⟨d211,hd210,hz⟩:=Qb hz
 refine Qs (Q8 0 201 hS rfl zb208 rfl rfl f205_0 rfl rfl (Lf (rr zb208) f205_0) hd210 ?_)
 intro cs210 w209 hb210 ha210 hs210 hS
 refine Qc (Qj (.bool r206.2) rfl) ?_
 refine Qf (Qa ?_)
 refine Qh <|Qi <|Qc (Qe (.int .i64 y175) hT190_9) <|Qc (Qp V5 rfl) ?_
 obtain ⟨u212,hx213,hz⟩:=Qb hz
 obtain ⟨hx213a,hx213b⟩:=Qw hx213
 refine Qc (Ze q3m rfl rfl hx213a hx213b) <|Qc (Qp Y6 rfl) ?_
 obtain ⟨x214,hx215,hz⟩:=Qb hz
 refine Qc (Qm (.int .i64 x214.state) Yb rfl (hS.bvB 0 rfl) (Yc (vp (k:=6) rfl rfl (Q5 (rr hb210)) hx215))) <|Qc (Yl rfl rfl) ?_
 refine Qf (Qa ?_)
 refine Qr rfl (fun hc216 => ?_) (fun hc216 => ?_)
 replace hz:=Qn hz hc216
 refine Qh <|Qi <|Qc (Qj (.bool false) rfl) ?_
 refine Qf (Qa ?_)
 cases hz
 exact Q4 (Zb (Qq (Qq (Zb (Zb (Qq (Qq (Zb (Qq (Yg rfl rfl ⟨rfl,(Ql (Ql (Ql (Ql hS)))).kept⟩))))))))))
 replace hz:=Qo hz hc216
 refine Qt (Za ?_)
 refine (Qa ?_)
 refine Qi <|Qc (Zz hT190_99 rfl) <|Qc (Qe (.int .i64 (IntKind.wrap .i64 (y198+1))) rfl) ?_
 refine Qf (Qa ?_)
 exact ⟨M205,cs191,d192,v193,xs194,l195,(IntKind.wrap .i64 (y198+1)),hF201,(Y2 hS hb208),hb191,hk196,hp197,hT190_3,hT190_9,hT190_86,hT190_87,rfl,(by rw [← hrec199];exact hz)⟩
 replace hz:=Qo hz hc203
 refine Zq <|Qy <|Qy <|Zs ?_
 refine (Za ?_)
 refine (Qa ?_)
 refine Qi <|Qc (Zz hT190_87 rfl) <|Qc (Qe (.int .i64 (IntKind.wrap .i64 (y175+1))) rfl) ?_
 refine Qf (Qa ?_)
 exact ⟨M189,cs191,d192,v193,xs194,l195,(IntKind.wrap .i64 (y175+1)),hF178,hS,hb191,hk196,hp197,hT190_3,hT190_86,rfl,(by rw [← hrec176];exact hz)⟩
 replace hz:=Qo hz hc180
 refine Zq <|Qy <|Qy <|Zs ?_
 refine (Qa ?_)
 refine Qh <|Qh <|Qi <|Qc (Qe (.int .i64 0) rfl) ?_
 refine Qf (Qa ?_)
 refine Qv ?_
 refine Zw (fun k229 T' w' => ∃ M218 cs220 d221 v222 xs223 l224 y227,Mm.ext w.heap.size noX M166 M218∧St w noX M218 [.box bP0_9 cs220 90,.stk v222 9 1 xs223,.box b13 [.pointer (some ⟨bP0_9,0,none⟩)] 23] w'∧rep M218 cs220 d221∧skr M218 v222 xs223 l224∧sl cs220 (0+1993) 1=[v222]∧T' 3 = .pointer (some ⟨b13,0,none⟩)∧T' 116 = .int .i64 y227∧qb4 fu k229 d221 l224 y227=some r) fu ?_ ?_ ?_
 exact ⟨M166,cs168,d169,v170,xs171,l172,(0:Int),(Qg _ _ _),hS,hb168,hk173,hp174,hT167_3,rfl,hz⟩
 rintro T' w' ⟨_,_,_,_,_,_,_,_,_,_,_,_,_,_,hz⟩
 rw [qb4] at hz
 cases hz
 intro k229
 rintro T219 w217 ⟨M218,cs220,d221,v222,xs223,l224,y227,hx231,hS,hb220,hk225,hp226,hT219_3,hT219_116,hz⟩
 have hF230:=hx231
 rw [qb4] at hz
 obtain ⟨rec228,hrec228⟩ : ∃ f,f=qb4 fu k229:=⟨_,rfl⟩
 rw [← hrec228] at hz
 refine Qh <|Qi <|Qc (Zv hT219_116 rfl) ?_
 refine Qf (Qa ?_)
 refine Qh ?_
 refine Qr rfl (fun hc232 => ?_) (fun hc232 => ?_)
 replace hz:=Qn hz hc232
 refine Qt (Qa ?_)
 refine Qh <|Qv <|Qh <|Qi <|Qc (Qe (.int .i64 y227) hT219_116) <|Qc (Qj (.int .i64 y227) rfl) ?_
 refine Qf (Qa ?_)
 refine Qh <|Qi <|Qc (Qm (.pointer (some ⟨bP0_9,0,none⟩)) q49 hT219_3 (hS.bvB 2 rfl) (rr (Kb (M:=M)))) <|Qc (Qe (.int .i64 y227) rfl) ?_
 obtain ⟨r235,hr234,hz⟩:=Qb hz
 refine Qs (Zl (vs:=[.pointer (some ⟨bP0_9,0,none⟩),.int .i64 y227]) (L:=[.box bP0_9 cs220 90]) (R:=[.stk v222 9 1 xs223,.box b13 [.pointer (some ⟨bP0_9,0,none⟩)] 23]) (rv:=(fun M' u L' => ∃ c0,u = .tuple #[.agg c0.toArray,.bool r235.2]∧L'=[.box bP0_9 cs220 90]∧rep M' c0 r235.1)) q9l (Z8 rfl rfl) hS (hS.sel [0,1,2] (by decide) rfl) (fun hS=>qlq hS hb220 hr234) ?_)
 rintro u234 M234 w233 L234 hx234 ⟨c0_234,rfl,hL234,f234_0⟩ hS
 replace hS:=hS _ hL234
 replace hb220:=Rep.mono hx234.1 hb220
 refine Qc (Qe (.tuple #[.agg c0_234.toArray,.bool r235.2]) rfl) <|Qc (Q7 (v := .agg c0_234.toArray) rfl rfl) <|Qc (Q7 (v := .bool r235.2) rfl rfl) ?_
 refine Qs (Zg qxo hS ?_)
 intro b237 w236 hb237 hS
 have zb237:rep M234 (Zr.zc GNode) (Zr.zd:GNode):=Zr.zr
 obtain ⟨d240,hd239,hz⟩:=Qb hz
 refine Qs (Q8 0 201 hS rfl zb237 rfl rfl f234_0 rfl rfl (Lf (rr zb237) f234_0) hd239 ?_)
 intro cs239 w238 hb239 ha239 hs239 hS
 refine Qc (Qj (.bool r235.2) rfl) ?_
 refine Qf (Qa ?_)
 refine Qh <|Qi <|Qc (Qm (.pointer (some ⟨bP0_9,0,none⟩)) q49 hT219_3 (hS.bvB 3 rfl) (rr (Kb (M:=M)))) <|Qc (Qe (.int .i64 y227) rfl) <|Qc (q91 rfl rfl (by decide)) <|Qc (q5l rfl rfl) ?_
 obtain ⟨r243,hr242,hz⟩:=Qb hz
 refine Qs (Zl (vs:=[.pointer (some ⟨bP0_9,0,none⟩),.int .i64 (IntKind.wrap .i64 ((IntKind.wrap .i64 (Int.tdiv y227 3))*3))]) (L:=[.box bP0_9 cs220 90]) (R:=[.box b237 cs239 34,.stk v222 9 1 xs223,.box b13 [.pointer (some ⟨bP0_9,0,none⟩)] 23]) (rv:=(fun M' u L' => ∃ c0,u = .tuple #[.agg c0.toArray,.bool r243.2]∧L'=[.box bP0_9 cs220 90]∧rep M' c0 r243.1)) q9l (Z8 rfl rfl) hS (hS.sel [1,0,2,3] (by decide) rfl) (fun hS=>qlq hS hb220 hr242) ?_)
 rintro u242 M242 w241 L242 hx242 ⟨c0_242,rfl,hL242,f242_0⟩ hS
 replace hS:=hS _ hL242
 replace hb220:=Rep.mono hx242.1 hb220
 replace hk225:=Zn (hx234.1.trans hx242.1) hk225
 replace hb239:=Rep.mono hx242.1 hb239
 replace hF230:=Qd hF230 (hx234.trans hx242)
 refine Qc (Qe (.tuple #[.agg c0_242.toArray,.bool r243.2]) rfl) <|Qc (Q7 (v := .agg c0_242.toArray) rfl rfl) <|Qc (Q7 (v := .bool r243.2) rfl rfl) ?_
 refine Qs (Zg qxo hS ?_)
 intro b245 w244 hb245 hS
 have zb245:rep M242 (Zr.zc GNode) (Zr.zd:GNode):=Zr.zr
 obtain ⟨d248,hd247,hz⟩:=Qb hz
 refine Qs (Q8 0 201 hS rfl zb245 rfl rfl f242_0 rfl rfl (Lf (rr zb245) f242_0) hd247 ?_)
 intro cs247 w246 hb247 ha247 hs247 hS
 refine Qc (Qj (.bool r243.2) rfl) ?_
 refine Qf (Qa ?_)
 refine Qh <|Qi <|Qc (Qp qtg rfl) ?_
 have ha249:=(K8 (rr hb239))
 refine Qc (Zf ta32 rfl (hS.bvB 2 rfl) (Rep.len ha249)) <|Qc (Qp qtg rfl) ?_
 have ha250:=(K8 (rr hb247))
 refine Qc (Zf ta32 rfl (hS.bvB 0 rfl) (Rep.len ha250)) <|Qc (zap rfl rfl eg32 ha249 ha250) ?_
 refine Qf (Qa ?_)
 refine Qr rfl (fun hc251 => ?_) (fun hc251 => ?_)
 replace hz:=Qn hz hc251
 refine Qh <|Qi <|Qc (Qj (.bool false) rfl) ?_
 refine Qf (Qa ?_)
 cases hz
 exact Q4 (Zb (Qq (Qq (Zb (Qq (Yg rfl rfl ⟨rfl,(Ql (Ql (Ql (Ql (Ql hS))))).kept⟩))))))
 replace hz:=Qo hz hc251
 refine Qt (Za ?_)
 refine (Qa ?_)
 refine Qi <|Qc (Zz hT219_116 rfl) <|Qc (Qe (.int .i64 (IntKind.wrap .i64 (y227+1))) rfl) ?_
 refine Qf (Qa ?_)
 exact ⟨M242,cs220,d221,v222,xs223,l224,(IntKind.wrap .i64 (y227+1)),hF230,(hS.sel (H':=[.box bP0_9 cs220 90,.stk v222 9 1 xs223,.box b13 [.pointer (some ⟨bP0_9,0,none⟩)] 23]) [1,3,4] (by decide) rfl),hb220,hk225,hp226,hT219_3,rfl,(by rw [← hrec228];exact hz)⟩
 replace hz:=Qo hz hc232
 refine Zq <|Qy <|Qy <|Zs ?_
 refine (Qa ?_)
 refine Qh <|Qi <|Qc (Qj (.bool true) rfl) ?_
 refine Qf (Qa ?_)
 cases hz
 exact Q4 (Yg rfl rfl ⟨rfl,(Ql (Ql (Ql hS))).kept⟩)
 rintro T30 w28 ⟨M29,cs31,d32,hx34,hS,hb31,hp33,hT30_3,hT30_5,hz⟩
 replace hF26:=Qd hF26 hx34
 rw [qfo] at hz
 refine Qv <|Qi <|Qc (Qe (.int .i64 y23) hT30_5) <|Qc (Zz rfl rfl) <|Qc (Qj (.int .i64 (IntKind.wrap .i64 (y23+1))) rfl) ?_
 refine Qf (Za ?_)
 refine (Qa ?_)
 exact ⟨M29,cs31,d32,(IntKind.wrap .i64 (y23+1)),hF26,hS,hb31,hp33,hT30_3,rfl,(by rw [← hrec24];exact hz)⟩
end Go.Proofs.Yteilffoclpgijaa
namespace Go.Proofs.Yteilffoclpgijaa
open Go.RowKit
theorem qzb (a b:Nat) (ha:a<4611686018427387904) (hb:b<4611686018427387904) (h:a ||| b<9223372036854775808):bits .or .i64 (a:Int) (b:Int)=((a ||| b:Nat):Int):=by
 show IntKind.i64.wrap ((BitVec.ofInt 64 (a:Int) ||| BitVec.ofInt 64 (b:Int)).toNat:Int)=_
 rw [BitVec.ofInt_natCast,BitVec.ofInt_natCast,BitVec.toNat_or,BitVec.toNat_ofNat,BitVec.toNat_ofNat,Nat.mod_eq_of_lt (by omega),Nat.mod_eq_of_lt (by omega)]
 exact IntWalk.i64_in _ (by omega)
theorem q4k (a b:Nat) (ha:a<4611686018427387904 / 256) (hb:b<256):bits .or .i64 ((a:Int)*256) (b:Int)=(a:Int)*256+b:=by
 have h:=Nat.two_pow_add_eq_or_of_lt (i:=8) (b:=b) (by omega) a
 have e:((a*256:Nat):Int)=(a:Int)*256:=by omega
 rw [← e,qzb _ _ (by omega) (by omega) (by rw [Nat.mul_comm];rw [show (256:Nat)=2 ^ 8 from rfl,← h];omega)]
 rw [Nat.mul_comm,show (256:Nat)=2 ^ 8 from rfl,← h]
 omega
end Go.Proofs.Yteilffoclpgijaa
namespace Go.Proofs.Yteilffoclpgijaa
open Go.RowKit
def RTexts (S:Nat→Prop) (w:World) (v:Value) (l:List ByteArray):Prop:=RRow S w v 1 16 l.length (l.map Value.string)
def qc2 (a b:UInt8):Nat:=a.toNat*256+b.toNat
def qaq (l:List UInt8):List ByteArray × Nat :=
 match l with
 | a::b::r =>
  if 1≤qc2 a b∧qc2 a b≤400∧qc2 a b≤r.length then
   (⟨(r.take (qc2 a b)).toArray⟩::(qaq (r.drop (qc2 a b))).1,2+qc2 a b+(qaq (r.drop (qc2 a b))).2)
  else ([],0)
 | _=>([],0)
termination_by l.length
decreasing_by all_goals (simp only [List.length_cons,List.length_drop];omega)
theorem qhb {a b:UInt8} {r:List UInt8} (h : ¬ (1≤qc2 a b∧qc2 a b≤400∧qc2 a b≤r.length)):qaq (a::b::r)=([],0):=by
 rw [qaq,if_neg h]
theorem qh2 {a b:UInt8} {r:List UInt8} (h:1≤qc2 a b∧qc2 a b≤400∧qc2 a b≤r.length) :
  qaq (a::b::r)=(⟨(r.take (qc2 a b)).toArray⟩::(qaq (r.drop (qc2 a b))).1,2+qc2 a b+(qaq (r.drop (qc2 a b))).2):=by
 rw [qaq,if_pos h]
theorem qaz {l:List UInt8} (h:l.length<2):qaq l=([],0):=by
 match l,h with
 | [],_=>rw [qaq];intro a b r h;cases h
 | [x],_=>rw [qaq];intro a b r h;cases h
def qq4 (log:ByteArray) (acc:List ByteArray) (k:Nat):Prop :=
 (qaq log.data.toList).1=acc++(qaq (log.data.toList.drop k)).1∧(qaq log.data.toList).2=k+(qaq (log.data.toList.drop k)).2∧acc.length≤k
theorem qwl (log:ByteArray):qq4 log [] 0:=by simp [qq4]
theorem qxy {log:ByteArray} {k:Nat} (h:k+2≤log.size):log.data.toList.drop k=log[k]::log[k+1]::log.data.toList.drop (k+2):=by
 have hl:log.data.toList.length=log.size:=rfl
 rw [List.drop_eq_getElem_cons (by omega),List.drop_eq_getElem_cons (by omega)]
 rfl
theorem qwm {log:ByteArray} {acc:List ByteArray} {k:Nat} (h:qq4 log acc k) (hk:k+2≤log.size)
  (hn:1≤qc2 log[k] log[k+1]∧qc2 log[k] log[k+1]≤400∧qc2 log[k] log[k+1]≤log.size-k-2) :
  qq4 log (acc++[log.extract (k+2) (k+2+qc2 log[k] log[k+1])]) (k+(2+qc2 log[k] log[k+1])):=by
 obtain ⟨h1,h2,h3⟩:=h
 have hl:log.data.toList.length=log.size:=rfl
 rw [qxy hk,qh2 (by rw [List.length_drop,hl];omega),List.drop_drop] at h1 h2
 have he:log.extract (k+2) (k+2+qc2 log[k] log[k+1])=⟨(List.take (qc2 log[k] log[k+1]) (List.drop (k+2) log.data.toList)).toArray⟩:=by
  apply q5p
  rw [Go.Lib.extract_data]
  simp
 have e2:k+2+qc2 log[k] log[k+1]=k+(2+qc2 log[k] log[k+1]):=by omega
 rw [e2] at h1 h2
 refine ⟨?_,by omega,by simp;omega⟩
 rw [h1,← e2,he]
 simp
theorem qq5 {log:ByteArray} {acc:List ByteArray} {k:Nat} (h:qq4 log acc k) (he:qaq (log.data.toList.drop k)=([],0)):qaq log.data.toList=(acc,k):=by
 obtain ⟨h1,h2,_⟩:=h
 rw [he] at h1 h2
 simp at h1 h2
 rw [← h1,← h2]
end Go.Proofs.Yteilffoclpgijaa
namespace Go.Proofs.Yteilffoclpgijaa
open Go.RowKit
theorem RTexts.shape {S:Nat→Prop} {w:World} {v:Value} {l:List ByteArray} (h:RTexts S w v l) : ∃ a cap,v = .slice a l.length cap∧l.length≤17592186043904:=by
 obtain ⟨a,cap,he,h1,h2,h3,h4,h5⟩:=h
 exact ⟨a,cap,he,by omega⟩
theorem RTexts.later {S:Nat→Prop} {w w':World} {v:Value} {l:List ByteArray} (h:RTexts S w v l) (hb:Below w.heap.size w w'):RTexts S w' v l:=RRow.later h hb
theorem RTexts.at {S:Nat→Prop} {w:World} {a:Option Addr} {n cap:Nat} {l:List ByteArray} (h:RTexts S w (.slice a n cap) l) {k:Nat} {x:ByteArray} (hx:l[k]? = some x) :
  ∃ b off,a=some ⟨b,off,none⟩∧S b∧b<w.heap.size∧w.cell? ⟨b,off+k,none⟩=some (.string x):=by
 obtain ⟨a',cap',he,h1,h2,h3,h4,h5⟩:=h
 cases he
 obtain ⟨b,off,ha,hb,hc⟩:=h5 k (.string x) (by simp [hx])
 exact ⟨b,off,ha,hb,qry hc,hc⟩
end Go.Proofs.Yteilffoclpgijaa
namespace Go.Proofs.Yteilffoclpgijaa
open Go.RowKit
theorem qm8 : ∀ (n:Nat) (l m:List UInt8),l.length≤n→(qaq l).2=l.length→qaq (l++m)=((qaq l).1++(qaq m).1,l.length+(qaq m).2):=by
 intro n
 induction n with
 | zero =>
  intro l m hl h
  have:l=[]:=List.eq_nil_of_length_eq_zero (by omega)
  subst this
  rw [qaz (l:=[]) (by decide)]
  simp
 | succ n ih =>
  intro l m hl h
  match l with
  | [] =>
   rw [qaz (l:=[]) (by decide)]
   simp
  | [x] =>
   rw [qaz (l:=[x]) (by simp)] at h
   simp at h
  | a::b::r =>
   by_cases hc:1≤qc2 a b∧qc2 a b≤400∧qc2 a b≤r.length
   ·rw [qh2 hc] at h ⊢
    simp only [List.length_cons] at h hl
    have hd:(qaq (r.drop (qc2 a b))).2=(r.drop (qc2 a b)).length:=by rw [List.length_drop];omega
    have hih:=ih (r.drop (qc2 a b)) m (by rw [List.length_drop];omega) hd
    have hc2:1≤qc2 a b∧qc2 a b≤400∧qc2 a b≤(r++m).length:=by rw [List.length_append];omega
    show qaq (a::b::(r++m))=_
    rw [qh2 hc2,List.take_append_of_le_length hc.2.2,List.drop_append_of_le_length hc.2.2,hih]
    simp only [List.cons_append,List.length_cons,Prod.mk.injEq,true_and,List.length_drop]
    omega
   ·rw [qhb hc] at h
    simp at h
def q4l (s:ByteArray):List UInt8:=UInt8.ofNat (s.size / 256)::UInt8.ofNat (s.size%256)::s.data.toList
theorem q1w (s:ByteArray) (h:s.size≤400):qc2 (UInt8.ofNat (s.size / 256)) (UInt8.ofNat (s.size%256))=s.size:=by
 unfold qc2
 simp only [UInt8.toNat_ofNat']
 omega
theorem qq6 (log s:ByteArray) (h:s.size≤400):(qgy log s).data.toList=log.data.toList++q4l s:=by
 unfold qgy q4l
 simp only [qwb,strOfNums_data,List.map_cons,List.map_nil]
 rw [show ((s.size:Int) / 256).toNat=s.size / 256 by omega,show ((s.size:Int)%256).toNat=s.size%256 by omega]
 simp
theorem qsd (s:ByteArray):(q4l s).length=s.size+2:=by
 have:s.data.toList.length=s.size:=rfl
 simp [q4l]
theorem qub (s:ByteArray) (h1:1≤s.size) (h2:s.size≤400):qaq (q4l s)=([s],s.size+2):=by
 have hl:s.data.toList.length=s.size:=rfl
 have hn:=q1w s h2
 unfold q4l
 rw [qh2 (by rw [hn,hl];omega),hn,← hl,List.take_length,List.drop_length,qaz (l:=[]) (by decide)]
 simp only [Prod.mk.injEq]
 refine ⟨?_,by omega⟩
 first | rfl | trivial
theorem qzc (s:ByteArray) (h2:s.size≤400) (t:Nat) (ht:t<s.size+2):qaq ((q4l s).take t)=([],0):=by
 have hl:s.data.toList.length=s.size:=rfl
 have hn:=q1w s h2
 unfold q4l
 match t,ht with
 | 0,_=>exact qaz (by simp)
 | 1,_=>exact qaz (by simp)
 | t+2,ht =>
  simp only [List.take_succ_cons]
  exact qhb (by rw [hn,List.length_take,hl];omega)
def qwn (log:ByteArray) (want:List ByteArray):Prop:=qaq log.data.toList=(want,log.size)
theorem qzd {log:ByteArray} {want:List ByteArray} (h:qwn log want) (s:ByteArray) (h1:1≤s.size) (h2:s.size≤400):qwn (qgy log s) (want++[s]):=by
 unfold qwn at *
 have hl:log.data.toList.length=log.size:=rfl
 rw [qq6 _ _ h2,qm8 _ _ _ (Nat.le_refl _) (by rw [h,hl]),h,qub s h1 h2,qgz,hl]
 simp only [Prod.mk.injEq,true_and]
 omega
theorem qze {log:ByteArray} {want:List ByteArray} (h:qwn log want) (s:ByteArray) (n:Int) (h1:1≤s.size) (h2:s.size≤400) (hc:qe4 log s=0) :
  qaq (qg0 log s n).data.toList=(if (s.size:Int)+2≤n then (want++[s],log.size+(s.size+2)) else (want,log.size))∧(qg0 log s n).size=log.size+qej s n:=by
 have hl:log.data.toList.length=log.size:=rfl
 have ht:qej s n≤s.size+2:=by unfold qej;split<;>(try split)<;>omega
 have hd:(qg0 log s n).data.toList=log.data.toList++(q4l s).take (qej s n):=by
  unfold qg0
  rw [if_pos hc,Go.Lib.extract_data,qq6 _ _ h2,List.drop_zero,Nat.sub_zero,List.take_append,hl,List.take_of_length_le (by omega)]
  congr 2
  omega
 have hsz:(qg0 log s n).size=log.size+qej s n:=by
  have:(qg0 log s n).data.toList.length=(qg0 log s n).size:=rfl
  rw [← this,hd,List.length_append,List.length_take,qsd,hl]
  omega
 refine ⟨?_,hsz⟩
 rw [hd,qm8 _ _ _ (Nat.le_refl _) (by unfold qwn at h;rw [h,hl])]
 unfold qwn at h
 rw [h,hl]
 split
 ·rename_i hn
  have:qej s n=s.size+2:=by unfold qej;split<;>(try split)<;>omega
  rw [this,← qsd,List.take_length,qub s h1 h2,qsd]
 ·rename_i hn
  rw [qzc s h2 _ (by unfold qej;split<;>(try split)<;>omega)]
  simp
end Go.Proofs.Yteilffoclpgijaa
namespace Go.Proofs.Yteilffoclpgijaa
open Go.RowKit
open Rep (rep)
theorem qev (z:Int) (n:Nat) (l:List Byt) (j:Nat) (hj:j<6) (hl:l.length≤1000000) (h1 : -1099511627776≤z) (h2:z≤1099511627776) :
  qdi z (n+1) l (j:Int)=qdi z n (l++[⟨(z+140737488355328) / ((256 ^ j:Nat):Int)%256⟩]) ((j:Int)-1):=by
 rw [qdi]
 have hw:IntKind.wrap .i64 (z+140737488355328)=z+140737488355328:=qds (by omega) (by omega)
 have h8:IntKind.wrap .u64 (8*IntKind.wrap .u64 (j:Int))=8*(j:Int):=by rw [q84 (x:=(j:Int)) (by omega) (by omega),q84 (by omega) (by omega)]
 have hs:IntKind.wrap .i64 ((j:Int)-1)=(j:Int)-1:=qds (by omega) (by omega)
 have hb:IntKind.bits .i64=64:=rfl
 rw [qaj (qaf (by omega)),hw,h8,hs,hb,q1k (by omega),qaa,wr8,qbx (by simp [Rep.bytes];omega),qaa]
 have ht:Int.toNat (8*(j:Int))=8*j:=by omega
 have hm:min (8*j) 64=8*j:=by omega
 have hp:((2:Int) ^ (8*j))=((256 ^ j:Nat):Int):=by rw [Int.pow_mul];norm_cast
 rw [ht,hm,hp,Int.fdiv_eq_ediv_of_nonneg _ (Int.natCast_nonneg _)]
theorem qq7 {fu:Nat} {z:Int} {l:List Byt} (hf:7≤fu) (hl:l.length≤100000) (h1 : -1099511627776≤z) (h2:z≤1099511627776):qmk fu l z=some (l++(q0a z).map Byt.mk):=by
 obtain ⟨n,rfl⟩ : ∃ n,fu=n+7:=⟨fu-7,by omega⟩
 unfold qmk
 have e5:=qev z (n+6) l 5 (by omega) (by omega) h1 h2
 have e4:=fun m=>qev z (n+5) m 4 (by omega)
 have e3:=fun m=>qev z (n+4) m 3 (by omega)
 have e2:=fun m=>qev z (n+3) m 2 (by omega)
 have e1:=fun m=>qev z (n+2) m 1 (by omega)
 have e0:=fun m=>qev z (n+1) m 0 (by omega)
 have q5:((5:Nat):Int)=5:=rfl
 have q4:((4:Nat):Int)=4:=rfl
 have q3:((3:Nat):Int)=3:=rfl
 have q2:((2:Nat):Int)=2:=rfl
 have q1:((1:Nat):Int)=1:=rfl
 have q0:((0:Nat):Int)=0:=rfl
 rw [q5] at e5
 simp only [q4,q3,q2,q1,q0] at e4 e3 e2 e1 e0
 rw [e5,show (5:Int)-1=4 from rfl,e4 _ (by simp;omega) h1 h2,show (4:Int)-1=3 from rfl,e3 _ (by simp;omega) h1 h2,show (3:Int)-1=2 from rfl,e2 _ (by simp;omega) h1 h2,show (2:Int)-1=1 from rfl,e1 _ (by simp;omega) h1 h2,show (1:Int)-1=0 from rfl,e0 _ (by simp;omega) h1 h2]
 rw [qdi,qad (qae (by omega))]
 simp only [List.append_assoc,List.cons_append,List.nil_append,q0a,List.map_cons,List.map_nil]
 rw [show ((256 ^ 5:Nat):Int)=1099511627776 from rfl,show ((256 ^ 4:Nat):Int)=4294967296 from rfl,show ((256 ^ 3:Nat):Int)=16777216 from rfl,show ((256 ^ 2:Nat):Int)=65536 from rfl,show ((256 ^ 1:Nat):Int)=256 from rfl,Int.ediv_one]
structure FOk (f:GFrame):Prop where
 ops:f.ops.length≤4
 op : ∀ o∈f.ops,0≤o.kind∧o.kind<256∧0≤o.key∧o.key<256 ∧ -1099511627776≤o.n∧o.n≤1099511627776
 deps:f.deps.length≤32
 dep : ∀ n∈f.deps,0≤n∧n<32
 at_:f.at_.length≤4
 ats : ∀ n∈f.at_,0≤n∧n<4
 vals:f.vals.length=f.at_.length
 val : ∀ v∈f.vals,-1099511627776≤v∧v≤1099511627776
 head:0≤f.kind∧f.kind<256∧0≤f.node∧f.node<256∧0≤f.id∧f.id<256
def qgu (o:GOp):List Int:=o.kind::o.key::q0a o.n
def qdd (p:Int × Int):List Int:=p.1::q0a p.2
def quc (f:GFrame):List Int :=
 [f.kind,f.node,f.id,f.ops.length]++(f.ops.flatMap qgu++([(f.deps.length:Int)]++(f.deps++([(f.at_.length:Int)]++(f.at_.zip f.vals).flatMap qdd))))
theorem qxz (z:Int):(q0a z).length=6:=rfl
theorem byts (l:List Int):(l.map Byt.mk).map Byt.val=l:=by induction l with | nil=>rfl | cons x t ih=>rw [List.map_cons,List.map_cons,ih]
theorem q86 (f:GFrame) (hf:FOk f) (fu:Nat) (hfu:7≤fu) : ∀ (ra rv:List Int) (k n:Nat) (l:List Byt),f.at_.drop k=ra→f.vals.drop k=rv→ra.length<n→l.length+7*ra.length≤90000→k≤f.at_.length →
  qd3 fu f n l (k:Int)=some (strOfNums (l.map Byt.val++(ra.zip rv).flatMap qdd),0):=by
 intro ra
 induction ra with
 | nil =>
  intro rv k n l ha hv hn hl hk
  obtain ⟨n,rfl⟩ : ∃ m,n=m+1:=⟨n-1,by simp at hn;omega⟩
  have:f.at_.length≤k:=by have:=congrArg List.length ha;simp at this;omega
  rw [qd3,qad (qae (by omega))]
  simp
 | cons a t ih =>
  intro rv k n l ha hv hn hl hk
  obtain ⟨n,rfl⟩ : ∃ m,n=m+1:=⟨n-1,by simp at hn;omega⟩
  have hk2:k<f.at_.length:=by have:=congrArg List.length ha;simp at this;omega
  have hga:f.at_[k]? = some a:=by have:=congrArg (fun x:List Int=>x[0]?) ha;simpa using this
  cases rv with
  | nil=>have:=congrArg List.length hv;simp at this;have:=hf.vals;omega
  | cons v u =>
   have hgv:f.vals[k]? = some v:=by have:=congrArg (fun x:List Int=>x[0]?) hv;simpa using this
   have ha2:f.at_.drop (k+1)=t:=by rw [← List.tail_drop,ha];rfl
   have hv2:f.vals.drop (k+1)=u:=by rw [← List.tail_drop,hv];rfl
   have hv3:=hf.val v (List.mem_of_getElem? hgv)
   have ha3:=hf.ats a (List.mem_of_getElem? hga)
   have h4:=hf.at_
   simp only [List.length_cons] at hl hn
   rw [qd3,qaj (qaf (by omega)),qbm,hga,qaa,qbm,hgv,qaa,qbx (by simp [Rep.bytes];omega),qaa,qq7 hfu (by simp;omega) hv3.1 hv3.2,qaa,
    qds (by omega) (by omega),show (k:Int)+1=((k+1:Nat):Int) from rfl,ih u (k+1) n _ ha2 hv2 (by omega) (by simp [qxz];omega) (by omega)]
   congr 3
   simp only [List.map_append,byts,wr8,List.zip_cons_cons,List.flatMap_cons,qdd,List.map_cons,List.map_nil,List.append_assoc,List.cons_append,List.nil_append]
   rw [Int.emod_eq_of_lt ha3.1 (by omega)]
theorem q87 (f:GFrame) (hf:FOk f) (fu:Nat) (hfu:40≤fu) : ∀ (ra:List Int) (k n:Nat) (l:List Byt),f.deps.drop k=ra→ra.length<n→l.length+ra.length≤80000→k≤f.deps.length →
  qd4 fu f n l (k:Int)=some (strOfNums (l.map Byt.val++(ra++([(f.at_.length:Int)]++(f.at_.zip f.vals).flatMap qdd))),0):=by
 intro ra
 induction ra with
 | nil =>
  intro k n l ha hn hl hk
  obtain ⟨n,rfl⟩ : ∃ m,n=m+1:=⟨n-1,by simp at hn;omega⟩
  have:f.deps.length≤k:=by have:=congrArg List.length ha;simp at this;omega
  have h4:=hf.at_
  simp only [List.length_nil] at hl
  rw [qd4,qad (qae (by omega)),qbx (by simp [Rep.bytes];omega),qaa,show (0:Int)=((0:Nat):Int) from rfl,q86 f hf fu (by omega) f.at_ f.vals 0 fu _ rfl rfl (by omega) (by simp;omega) (by omega)]
  congr 3
  simp only [List.map_append,wr8,List.map_cons,List.map_nil,List.append_assoc,List.nil_append]
  rw [Int.emod_eq_of_lt (by omega) (by omega)]
 | cons a t ih =>
  intro k n l ha hn hl hk
  obtain ⟨n,rfl⟩ : ∃ m,n=m+1:=⟨n-1,by simp at hn;omega⟩
  have hk2:k<f.deps.length:=by have:=congrArg List.length ha;simp at this;omega
  have hga:f.deps[k]? = some a:=by have:=congrArg (fun x:List Int=>x[0]?) ha;simpa using this
  have ha2:f.deps.drop (k+1)=t:=by rw [← List.tail_drop,ha];rfl
  have ha3:=hf.dep a (List.mem_of_getElem? hga)
  have h32:=hf.deps
  simp only [List.length_cons] at hl hn
  rw [qd4,qaj (qaf (by omega)),qbm,hga,qaa,qbx (by simp [Rep.bytes];omega),qaa,qds (by omega) (by omega),show (k:Int)+1=((k+1:Nat):Int) from rfl,ih (k+1) n _ ha2 (by omega) (by simp;omega) (by omega)]
  congr 3
  simp only [List.map_append,wr8,List.map_cons,List.map_nil,List.append_assoc,List.cons_append,List.nil_append]
  rw [Int.emod_eq_of_lt ha3.1 (by omega)]
theorem q88 (f:GFrame) (hf:FOk f) (fu:Nat) (hfu:40≤fu) : ∀ (ra:List GOp) (k n:Nat) (l:List Byt),f.ops.drop k=ra→ra.length<n→l.length+8*ra.length≤70000→k≤f.ops.length →
  qd5 fu f n l (k:Int)=some (strOfNums (l.map Byt.val++(ra.flatMap qgu++([(f.deps.length:Int)]++(f.deps++([(f.at_.length:Int)]++(f.at_.zip f.vals).flatMap qdd))))),0):=by
 intro ra
 induction ra with
 | nil =>
  intro k n l ha hn hl hk
  obtain ⟨n,rfl⟩ : ∃ m,n=m+1:=⟨n-1,by simp at hn;omega⟩
  have:f.ops.length≤k:=by have:=congrArg List.length ha;simp at this;omega
  have h4:=hf.deps
  simp only [List.length_nil] at hl
  rw [qd5,qad (qae (by omega)),qbx (by simp [Rep.bytes];omega),qaa,show (0:Int)=((0:Nat):Int) from rfl,q87 f hf fu hfu f.deps 0 fu _ rfl (by omega) (by simp;omega) (by omega)]
  congr 3
  simp only [List.map_append,wr8,List.map_cons,List.map_nil,List.append_assoc,List.nil_append,List.flatMap_nil]
  rw [Int.emod_eq_of_lt (by omega) (by omega)]
 | cons a t ih =>
  intro k n l ha hn hl hk
  obtain ⟨n,rfl⟩ : ∃ m,n=m+1:=⟨n-1,by simp at hn;omega⟩
  have hk2:k<f.ops.length:=by have:=congrArg List.length ha;simp at this;omega
  have hga:f.ops[k]? = some a:=by have:=congrArg (fun x:List GOp=>x[0]?) ha;simpa using this
  have ha2:f.ops.drop (k+1)=t:=by rw [← List.tail_drop,ha];rfl
  obtain ⟨b1,b2,b3,b4,b5,b6⟩:=hf.op a (List.mem_of_getElem? hga)
  have h4:=hf.ops
  simp only [List.length_cons] at hl hn
  rw [qd5,qaj (qaf (by omega)),qbm,hga,qaa,qaa,qbx (by simp [Rep.bytes];omega),qaa,qq7 (by omega) (by simp;omega) b5 b6,qaa,
   qds (by omega) (by omega),show (k:Int)+1=((k+1:Nat):Int) from rfl,ih (k+1) n _ ha2 (by omega) (by simp [qxz];omega) (by omega)]
  congr 3
  simp only [List.map_append,byts,wr8,List.flatMap_cons,qgu,List.map_cons,List.map_nil,List.append_assoc,List.cons_append,List.nil_append]
  rw [Int.emod_eq_of_lt b1 b2,Int.emod_eq_of_lt b3 b4]
theorem qzf {f:GFrame} (hf:FOk f) (h0:qak f=0) {fu:Nat} (hfu:40≤fu):qiv fu f=some (strOfNums (quc f),0):=by
 unfold qiv
 have h4:=hf.ops
 obtain ⟨b1,b2,b3,b4,b5,b6⟩:=hf.head
 rw [qaa,h0,qad (by decide),show (0:Int)=((0:Nat):Int) from rfl,q88 f hf fu hfu f.ops 0 fu _ rfl (by omega) (by simp;omega) (by omega)]
 congr 3
 simp only [quc,wr8,List.map_cons,List.map_nil]
 rw [Int.emod_eq_of_lt b1 b2,Int.emod_eq_of_lt b3 b4,Int.emod_eq_of_lt b5 b6,Int.emod_eq_of_lt (by omega) (by omega)]
theorem qzg {f:GFrame} (h0:qak f≠0) {fu:Nat}:qiv fu f=some (strOfNums [],qak f):=by
 unfold qiv
 rw [qaa,qaj (by simpa using h0)]
 rfl
end Go.Proofs.Yteilffoclpgijaa
namespace Go.Proofs.Yteilffoclpgijaa
open Go.RowKit
open Rep (rep)
theorem qud {l:List Int} (h:qav l=true) : ∀ i,i<l.length→(i:Int)≤l.getD i 0∧l.getD i 0<32:=by
 unfold qav at h
 rw [qd2] at h
 intro i
 induction i with
 | zero =>
  intro hi
  have:=h 0 hi
  unfold qip at this
  simp only [Bool.and_eq_true,decide_eq_true_eq] at this
  exact ⟨by have:=this.1.1;simpa using this,this.1.2⟩
 | succ i ih =>
  intro hi
  have h1:=ih (by omega)
  have:=h (i+1) hi
  unfold qip at this
  simp only [Bool.and_eq_true,decide_eq_true_eq,Bool.or_eq_true,beq_iff_eq,Nat.add_sub_cancel] at this
  refine ⟨?_,this.1.2⟩
  rcases this.2 with h2 | h2
  ·omega
  ·push_cast
   omega
theorem qhc {l:List Int} (h:qav l=true):l.length≤32:=by
 rcases Nat.lt_or_ge 32 l.length with h1 | h1
 ·have:=qud h 32 h1
  omega
 ·exact h1
theorem qzh {l:List Int} (h:qav l=true) : ∀ n∈l,0≤n∧n<32:=by
 intro n hn
 obtain ⟨i,hi,rfl⟩:=List.getElem_of_mem hn
 have:=qud h i hi
 rw [List.getD_eq_getElem?_getD,List.getElem?_eq_getElem hi] at this
 simp only [Option.getD_some] at this
 omega
theorem qci {l:List GOp} (h:qap l=true):0<l.length∧l.length≤4:=by
 unfold qap at h
 simp only [Bool.and_eq_true,decide_eq_true_eq] at h
 omega
theorem qpc {l:List GOp} (h:qap l=true) : ∀ o∈l,1≤o.kind∧o.kind≤3∧0≤o.key∧o.key<8 ∧ -1099511627776≤o.n∧o.n≤1099511627776:=by
 intro o ho
 unfold qap at h
 simp only [Bool.and_eq_true] at h
 have h1:=(qd2 _ _).1 h.1
 obtain ⟨i,hi,rfl⟩:=List.getElem_of_mem ho
 have:=h1 i hi
 unfold q53 at this
 rw [List.getD_eq_getElem?_getD,List.getElem?_eq_getElem hi] at this
 simp only [Option.getD_some,Bool.and_eq_true] at this
 have:=this.1
 unfold qdg at this
 simp only [decide_eq_true_eq] at this
 omega
theorem qx0 {f:GFrame} (h:qak f=0):FOk f:=by
 unfold qak at h
 split at h
 ·cases h
 ·rename_i hk
  split at h
  ·cases h
  ·rename_i hn
   split at h
   ·rename_i hp
    simp only [Bool.and_eq_true] at hp
    obtain ⟨h1,h2,h3⟩:=hp
    have ho:f.ops.length≤4 ∧ ∀ o∈f.ops,0≤o.kind∧o.kind<256∧0≤o.key∧o.key<256 ∧ -1099511627776≤o.n∧o.n≤1099511627776:=by
     unfold qfe at h1
     split at h1
     ·refine ⟨(qci h1).2,fun o ho => ?_⟩
      have:=qpc h1 o ho
      omega
     ·have:f.ops=[]:=List.length_eq_zero_iff.1 (by simpa using h1)
      rw [this]
      simp
    have hd:f.deps.length≤32 ∧ ∀ n∈f.deps,0≤n∧n<32:=by
     unfold qdp at h2
     split at h2
     ·simp only [Bool.and_eq_true] at h2
      exact ⟨qhc h2.1,qzh h2.1⟩
     ·have:f.deps=[]:=List.length_eq_zero_iff.1 (by simpa using h2)
      rw [this]
      simp
    unfold qiq at h3
    simp only [Bool.and_eq_true,beq_iff_eq] at h3
    obtain ⟨_,h4,h5,h6⟩:=h3
    rw [qd2] at h5 h6
    have ha : ∀ i,i<f.at_.length→(i:Int)≤f.at_.getD i 0∧f.at_.getD i 0<4:=by
     intro i
     induction i with
     | zero =>
      intro hi
      have:=h5 0 hi
      unfold q3l at this
      simp only [Bool.and_eq_true,decide_eq_true_eq] at this
      exact ⟨by have:=this.1.1;simpa using this,this.1.2⟩
     | succ i ih =>
      intro hi
      have e1:=ih (by omega)
      have:=h5 (i+1) hi
      unfold q3l at this
      simp only [Bool.and_eq_true,decide_eq_true_eq,Bool.or_eq_true,beq_iff_eq,Nat.add_sub_cancel] at this
      refine ⟨?_,this.1.2⟩
      rcases this.2 with e2 | e2
      ·omega
      ·push_cast
       omega
    have hl:f.at_.length≤4:=by
     rcases Nat.lt_or_ge 4 f.at_.length with e1 | e1
     ·have:=ha 4 e1;omega
     ·exact e1
    refine ⟨ho.1,ho.2,hd.1,hd.2,hl,fun n hn => ?_,h4.symm,fun v hv => ?_,by omega⟩
    ·obtain ⟨i,hi,rfl⟩:=List.getElem_of_mem hn
     have:=ha i hi
     rw [List.getD_eq_getElem?_getD,List.getElem?_eq_getElem hi] at this
     simp only [Option.getD_some] at this
     omega
    ·obtain ⟨i,hi,rfl⟩:=List.getElem_of_mem hv
     have:=h6 i hi
     unfold qvy at this
     rw [List.getD_eq_getElem?_getD,List.getElem?_eq_getElem hi] at this
     simpa using this
   ·cases h
def qef (f:GFrame):ByteArray × Int:=if qak f=0 then (strOfNums (quc f),0) else (strOfNums [],qak f)
theorem qzi (f:GFrame) {fu:Nat} (hfu:40≤fu):qiv fu f=some (qef f):=by
 unfold qef
 by_cases h:qak f=0
 ·rw [if_pos h,qzf (qx0 h) h hfu]
 ·rw [if_neg h,qzg h]
end Go.Proofs.Yteilffoclpgijaa
namespace Go.Proofs.Yteilffoclpgijaa
open Go.RowKit
open Rep (rep)
def byL (s:ByteArray):List Int:=s.data.toList.map fun b=>(b.toNat:Int)
theorem qja (s:ByteArray):(byL s).length=s.size:=by
 unfold byL
 rw [List.length_map]
 rfl
theorem qlx {s:ByteArray} {c:Int} (h:c∈byL s):0≤c∧c<256:=by
 unfold byL at h
 obtain ⟨b,_,rfl⟩:=List.mem_map.1 h
 have:=b.toNat_lt
 omega
theorem q1x (s:ByteArray) (k:Nat):q0j s (k:Int)=(byL s)[k]? := by
 unfold q0j byL
 rw [if_pos (Int.natCast_nonneg k),List.getElem?_map]
 have e:((k:Int)).toNat=k:=rfl
 rw [e]
 by_cases hk:k<s.size
 ·have h2:k<s.data.toList.length:=hk
  rw [List.getElem?_eq_getElem h2]
  have:s[k]? = some s[k]:=getElem?_pos s k hk
  rw [this]
  rfl
 ·have h2:s.data.toList.length≤k:=by have:s.data.toList.length=s.size:=rfl;omega
  rw [List.getElem?_eq_none h2]
  have:s[k]? = none:=getElem?_neg s k hk
  rw [this]
theorem q1y {s:ByteArray} {k:Nat} (hk:k≤s.size) : ∃ s',qyr s (some (k:Int)) none=some s'∧byL s'=(byL s).drop k:=by
 unfold qyr qgm
 simp only [Option.getD_some,Option.getD_none]
 rw [if_pos (by omega)]
 refine ⟨_,rfl,?_⟩
 unfold byL
 rw [Go.Lib.extract_data,← List.map_drop]
 congr 1
 have e:((s.size:Int)).toNat=s.size:=rfl
 have e2:((k:Int)).toNat=k:=rfl
 simp only [e,e2]
 refine List.take_of_length_le ?_
 have:s.data.toList.length=s.size:=rfl
 rw [List.length_drop]
 omega
theorem qjb {s:ByteArray}:(s.toList==(⟨#[]⟩:ByteArray).toList)=(byL s).isEmpty:=by
 rw [ByteArray.toList_eq,ByteArray.toList_eq,Bool.eq_iff_iff]
 unfold byL
 simp
def q5g (a b c d e f:Int):Int:=((((a*256+b)*256+c)*256+d)*256+e)*256+f-140737488355328
def q4m:Nat→List Int→Option (List GOp × List Int)
 | 0,l=>some ([],l)
 | n+1,k::y::a::b::c::d::e::f::t=>(q4m n t).map fun p=>(⟨k,y,q5g a b c d e f⟩::p.1,p.2)
 | _+1,_=>none
def q1z (n:Nat) (l:List Int):Option (List Int × List Int):=if n≤l.length then some (l.take n,l.drop n) else none
def q4n:Nat→List Int→Option (List Int × List Int × List Int)
 | 0,l=>some ([],[],l)
 | n+1,k::a::b::c::d::e::f::t=>(q4n n t).map fun p=>(k::p.1,q5g a b c d e f::p.2.1,p.2.2)
 | _+1,_=>none
def q4o (kd nd id:Int) (os:List GOp) (ds:List Int):List Int→Option (GFrame × List Int)
 | k::u=>(q4n k.toNat u).map fun z=>(⟨kd,nd,id,os,ds,z.1,z.2.1⟩,z.2.2)
 | []=>none
def q4p (kd nd id:Int) (os:List GOp):List Int→Option (GFrame × List Int)
 | m::r=>(q1z m.toNat r).bind fun q=>q4o kd nd id os q.1 q.2
 | []=>none
def que:List Int→Option (GFrame × List Int)
 | kd::nd::id::no::t=>(q4m no.toNat t).bind fun p=>q4p kd nd id p.1 p.2
 | _=>none
def noF:GFrame:=⟨0,0,0,[],[],[],[]⟩
def q7e:Option (GFrame × List Int)→GFrame × Int
 | some (f,[])=>bif qak f==0 then (f,0) else (noF,1)
 | _=>(noF,1)
def qj7 (l:List Int):GFrame × Int:=q7e (que l)
structure Rd8 (x:GReader) (l:List Int):Prop where
 s:byL x.s=l
 ok:x.bad=false
 small:x.s.size≤140737488351232
def qvl (x:GReader):Prop:=x.bad=true∧x.s.size≤140737488351232
theorem qbu {fu:Nat} {x:GReader} {c:Int} {t:List Int} (h:Rd8 x (c::t)) : ∃ x',qc8 fu x=some (c,x')∧Rd8 x' t:=by
 have hlen:=qja x.s
 rw [h.s,List.length_cons] at hlen
 obtain ⟨s',h1,h2⟩:=q1y (s:=x.s) (k:=1) (by omega)
 have h1:qyr x.s (some 1) none=some s':=h1
 have hs':=qja s'
 rw [h2,List.length_drop,qja] at hs'
 have hsm:=h.small
 have hi:q0j x.s 0=some c:=by
  have:=q1x x.s 0
  rw [h.s] at this
  exact this
 have hc:=qlx (s:=x.s) (c:=c) (by rw [h.s];exact List.mem_cons_self)
 refine ⟨{ x with s:=s' },?_,⟨by rw [h2,h.s];rfl,h.ok,by show s'.size≤_;omega⟩⟩
 unfold qc8
 rw [qjb,h.s,qad (by rfl),hi,qaa,h1,qaa,qho (by omega),qaa,qaa,qds (by omega) (by omega)]
theorem qda {fu:Nat} {x:GReader} (h:Rd8 x []) : ∃ x',qc8 fu x=some (0,x')∧qvl x':=by
 refine ⟨{ x with bad:=true },?_,rfl,h.small⟩
 unfold qc8
 rw [qjb,h.s,qaj (by rfl),qaa]
theorem qjc {fu:Nat} {x:GReader} (h:qvl x) : ∃ v x',qc8 fu x=some (v,x')∧qvl x':=by
 cases hl:byL x.s with
 | nil =>
  refine ⟨0,{ x with bad:=true },?_,rfl,h.2⟩
  unfold qc8
  rw [qjb,hl,qaj (by rfl),qaa]
 | cons c t =>
  have hlen:=qja x.s
  rw [hl,List.length_cons] at hlen
  obtain ⟨s',h1,h2⟩:=q1y (s:=x.s) (k:=1) (by omega)
  have h1:qyr x.s (some 1) none=some s':=h1
  have hs':=qja s'
  rw [h2,List.length_drop,qja] at hs'
  have hsm:=h.2
  have hi:q0j x.s 0=some c:=by
   have:=q1x x.s 0
   rw [hl] at this
   exact this
  refine ⟨IntKind.wrap .i64 c,{ x with s:=s' },?_,h.1,by show s'.size≤_;omega⟩
  unfold qc8
  rw [qjb,hl,qad (by rfl),hi,qaa,h1,qaa,qho (by omega),qaa,qaa]
theorem qx1 {y c:Int} (h0:0≤y) (h1:y<1099511627776) (hc0:0≤c) (hc1:c<256):orI .i64 (IntKind.wrap .i64 (y*2 ^ (min (Int.toNat 8) (IntKind.bits .i64)))) c=y*256+c:=by
 have e:(2:Int) ^ (min (Int.toNat 8) (IntKind.bits .i64))=256:=by decide
 rw [e,qds (by omega) (by omega)]
 obtain ⟨a,rfl⟩:=Int.eq_ofNat_of_zero_le h0
 obtain ⟨b,rfl⟩:=Int.eq_ofNat_of_zero_le hc0
 exact q4k a b (by omega) (by omega)
theorem qgv {fu:Nat} : ∀ (n m:Nat) (x:GReader) (y:Int) (k:Int),(6-k).toNat=m→0≤k→m<n→qvl x → ∃ v x',qbp fu n x y k=some (v,x')∧qvl x'
 | 0,m,x,y,k,_,_,h,_=>absurd h (by omega)
 | n+1,m,x,y,k,hm,hk,hn,hx=>by
  rw [qbp]
  by_cases h:k<6
  ·obtain ⟨v,x',h1,h2⟩:=qjc (fu:=fu) hx
   rw [qaj (qaf h),h1,qaa,qds (x:=k+1) (by omega) (by omega)]
   exact qgv n (m-1) x' _ (k+1) (by omega) (by omega) (by omega) h2
  ·rw [qad (qae h)]
   exact ⟨_,x,rfl,hx⟩
theorem qjd {fu:Nat} (hf:8≤fu) {x:GReader} (hx:qvl x) : ∃ v x',qfl fu x=some (v,x')∧qvl x':=qgv fu 6 x 0 0 rfl (by omega) (by omega) hx
theorem qd0 {fu n:Nat} {x:GReader} {c:Int} {t:List Int} (h:Rd8 x (c::t)) {y k:Int} (hk:k<6) (hk0:0≤k) (h0:0≤y) (h1:y<1099511627776) : ∃ x',qbp fu (n+1) x y k=qbp fu n x' (y*256+c) (k+1)∧Rd8 x' t:=by
 obtain ⟨x',h2,h3⟩:=qbu (fu:=fu) h
 have hc:=qlx (s:=x.s) (c:=c) (by rw [h.s];exact List.mem_cons_self)
 refine ⟨x',?_,h3⟩
 rw [qbp,qaj (qaf hk),h2,qaa,qx1 h0 h1 hc.1 hc.2,qds (x:=k+1) (by omega) (by omega)]
theorem qpd {fu:Nat} (hf:8≤fu) {x:GReader} {a b c d e f:Int} {t:List Int} (h:Rd8 x (a::b::c::d::e::f::t)) : ∃ x',qfl fu x=some (q5g a b c d e f,x')∧Rd8 x' t:=by
 have hr : ∀ z∈[a,b,c,d,e,f],0≤z∧z<256:=fun z hz=>qlx (s:=x.s) (by rw [h.s];simp at hz ⊢;rcases hz with rfl | rfl | rfl | rfl | rfl | rfl<;>simp)
 have ha:=hr a (by simp)
 have hb:=hr b (by simp)
 have hc:=hr c (by simp)
 have hd:=hr d (by simp)
 have he:=hr e (by simp)
 have hff:=hr f (by simp)
 obtain ⟨n,rfl⟩ : ∃ n,fu=n+7:=⟨fu-7,by omega⟩
 obtain ⟨x1,e1,r1⟩:=qd0 (fu:=n+7) (n:=n+6) h (y:=0) (k:=0) (by omega) (by omega) (by omega) (by omega)
 obtain ⟨x2,e2,r2⟩:=qd0 (fu:=n+7) (n:=n+5) r1 (y:=0*256+a) (k:=0+1) (by omega) (by omega) (by omega) (by omega)
 obtain ⟨x3,e3,r3⟩:=qd0 (fu:=n+7) (n:=n+4) r2 (y:=(0*256+a)*256+b) (k:=0+1+1) (by omega) (by omega) (by omega) (by omega)
 obtain ⟨x4,e4,r4⟩:=qd0 (fu:=n+7) (n:=n+3) r3 (y:=((0*256+a)*256+b)*256+c) (k:=0+1+1+1) (by omega) (by omega) (by omega) (by omega)
 obtain ⟨x5,e5,r5⟩:=qd0 (fu:=n+7) (n:=n+2) r4 (y:=(((0*256+a)*256+b)*256+c)*256+d) (k:=0+1+1+1+1) (by omega) (by omega) (by omega) (by omega)
 obtain ⟨x6,e6,r6⟩:=qd0 (fu:=n+7) (n:=n+1) r5 (y:=((((0*256+a)*256+b)*256+c)*256+d)*256+e) (k:=0+1+1+1+1+1) (by omega) (by omega) (by omega) (by omega)
 refine ⟨x6,?_,r6⟩
 unfold qfl
 rw [e1,e2,e3,e4,e5,e6,qbp,qad (by rfl),qds (by omega) (by omega)]
 unfold q5g
 rw [Int.zero_mul,Int.zero_add]
theorem qh9 {fu:Nat} : ∀ (t:List Int) (n:Nat) (x:GReader) (y k:Int),Rd8 x t→(t.length:Int)+k<6→0≤k→(6-k).toNat<n → ∃ v x',qbp fu n x y k=some (v,x')∧qvl x'
 | _,0,x,y,k,_,_,_,h=>absurd h (by omega)
 | [],n+1,x,y,k,hx,hs,hk,hn=>by
  obtain ⟨x',h1,h2⟩:=qda (fu:=fu) hx
  simp at hs
  rw [qbp,qaj (qaf hs),h1,qaa,qds (x:=k+1) (by omega) (by omega)]
  exact qgv n (6-(k+1)).toNat x' _ (k+1) rfl (by omega) (by omega) h2
 | c::t,n+1,x,y,k,hx,hs,hk,hn=>by
  obtain ⟨x',h1,h2⟩:=qbu (fu:=fu) hx
  simp at hs
  rw [qbp,qaj (qaf (by omega)),h1,qaa,qds (x:=k+1) (by omega) (by omega)]
  exact qh9 t n x' _ (k+1) h2 (by omega) (by omega) (by omega)
theorem qj8 {fu:Nat} (hf:8≤fu) {x:GReader} {t:List Int} (h:Rd8 x t) (hs:t.length<6) : ∃ v x',qfl fu x=some (v,x')∧qvl x':=qh9 t fu x 0 0 h (by omega) (by omega) (by omega)
section
variable {fu:Nat}
theorem qjy {n:Nat} {x:GReader} {d:GFrame} {y:Int} (hx:qvl x):qcm fu (n+1) x d y=some (noF,1):=by
 rw [qcm]
 unfold qgb qga
 rw [hx.1]
 cases decide (y>0)<;>rfl
theorem qmp {n:Nat} (hf:8≤fu) {x:GReader} {d:GFrame} {y:Int} (hx:qvl x):qcx fu (n+1) x d y=some (noF,1):=by
 obtain ⟨v,x',h1,h2⟩:=qjc (fu:=fu) hx
 obtain ⟨m,rfl⟩ : ∃ m,fu=m+1:=⟨fu-1,by omega⟩
 have h3:=qjy (fu:=m+1) (n:=m) (d:=d) (y:=v) h2
 rw [qcx]
 unfold qgc
 rw [hx.1]
 cases decide (y>0)
 ·simp only [cond_false]
  rw [h1,qaa];exact h3
 ·simp only [cond_true,Bool.not_true,cond_false]
  rw [h1,qaa];exact h3
theorem qq9 {n:Nat} (hf:8≤fu) {x:GReader} {d:GFrame} {y:Int} (hx:qvl x):qcn fu (n+1) x d y=some (noF,1):=by
 obtain ⟨v,x',h1,h2⟩:=qjc (fu:=fu) hx
 obtain ⟨m,rfl⟩ : ∃ m,fu=m+1:=⟨fu-1,by omega⟩
 have h3:=qmp (fu:=m+1) (n:=m) hf (d:=d) (y:=v) h2
 rw [qcn]
 unfold qgd
 rw [hx.1]
 cases decide (y>0)
 ·simp only [cond_false]
  rw [h1,qaa];exact h3
 ·simp only [cond_true,Bool.not_true,cond_false]
  rw [h1,qaa];exact h3
theorem q6p {x:GReader} {l:List Int} (hx:Rd8 x l) {n:Nat} {d:GFrame} {y:Int} (hy : ¬ y>0):qcm fu (n+1) x d y=some (q7e (some (d,l))):=by
 rw [qcm,qad (qae hy)]
 unfold qgb qga qlm
 rw [qad rfl,hx.ok,qad rfl,qjb,hx.s]
 cases l with
 | nil =>
  rw [qad (by rfl),qaa]
  have e0:q7e (some (d,[]))=bif qak d==0 then (d,0) else (noF,1):=rfl
  rw [e0]
  by_cases h:qak d=0
  ·rw [h];rfl
  ·have e1:(qak d != 0)=true:=by simp [h]
   have e2:(qak d==0)=false:=by simp [h]
   rw [e1,e2];rfl
 | cons c t=>rfl
theorem quf (hf:12≤fu) : ∀ (m n:Nat) (x:GReader) (l:List Int) (d:GFrame),m<n→m<256→d.at_.length+m≤300→d.vals.length+m≤300→Rd8 x l →
  qcm fu n x d m=some (q7e ((q4n m l).map fun z=>({ d with at_:=d.at_++z.1,vals:=d.vals++z.2.1 },z.2.2)))
 | m,0,_,_,_,h,_,_,_,_=>absurd h (by omega)
 | 0,n+1,x,l,d,_,_,_,_,hx=>by
  rw [q6p hx (by omega),q4n]
  have e:({ d with at_:=d.at_++[],vals:=d.vals++[] }:GFrame)=d:=by simp
  simp only [Option.map_some]
  rw [e]
 | m+1,n+1,x,l,d,hn,hm,ha,hv,hx=>by
  have hy:(((m+1:Nat):Int))>0:=by omega
  have e1:IntKind.wrap .i64 (((m+1:Nat):Int)-1)=(m:Int):=by rw [qds (by omega) (by omega)];omega
  rw [qcm,qaj (qaf hy)]
  unfold qgb qll
  rw [hx.ok,qaj (c := !false) rfl]
  cases l with
  | nil =>
   obtain ⟨x',h1,h2⟩:=qda (fu:=fu) hx
   obtain ⟨v,x2,h3,h4⟩:=qjd (fu:=fu) (by omega) h2
   simp only [h1,h3,qaa]
   rw [qbx (by have:Rep.bytes Int=8:=rfl;rw [this];simp;omega),qaa,qbx (by have:Rep.bytes Int=8:=rfl;rw [this];simp;omega),qaa,e1]
   obtain ⟨n,rfl⟩ : ∃ q,n=q+1:=⟨n-1,by omega⟩
   rw [qjy h4]
   rfl
  | cons k t =>
   obtain ⟨x',h1,h2⟩:=qbu (fu:=fu) hx
   by_cases h6:t.length<6
   ·obtain ⟨v,x2,h3,h4⟩:=qj8 (fu:=fu) (by omega) h2 h6
    simp only [h1,h3,qaa]
    rw [qbx (by have:Rep.bytes Int=8:=rfl;rw [this];simp;omega),qaa,qbx (by have:Rep.bytes Int=8:=rfl;rw [this];simp;omega),qaa,e1]
    obtain ⟨n,rfl⟩ : ∃ q,n=q+1:=⟨n-1,by omega⟩
    rw [qjy h4]
    have:q4n (m+1) (k::t)=none:=by
     match t,h6 with
     | [],_=>rfl
     | [_],_=>rfl
     | [_,_],_=>rfl
     | [_,_,_],_=>rfl
     | [_,_,_,_],_=>rfl
     | [_,_,_,_,_],_=>rfl
     | _::_::_::_::_::_::_,h=>simp at h;omega
    rw [this]
    rfl
   ·obtain ⟨a,b,c,e,f,g,u,rfl⟩ : ∃ a b c e f g u,t=a::b::c::e::f::g::u:=by
     match t,h6 with
     | [],h=>simp at h
     | [_],h=>simp at h
     | [_,_],h=>simp at h
     | [_,_,_],h=>simp at h
     | [_,_,_,_],h=>simp at h
     | [_,_,_,_,_],h=>simp at h
     | a::b::c::e::f::g::u,_=>exact ⟨a,b,c,e,f,g,u,rfl⟩
    obtain ⟨x2,h3,h4⟩:=qpd (fu:=fu) (by omega) h2
    simp only [h1,h3,qaa]
    rw [qbx (by have:Rep.bytes Int=8:=rfl;rw [this];simp;omega),qaa,qbx (by have:Rep.bytes Int=8:=rfl;rw [this];simp;omega),qaa,e1]
    rw [quf hf m n x2 u { d with at_:=d.at_++[k],vals:=d.vals++[q5g a b c e f g] } (by omega) (by omega) (by simp;omega) (by simp;omega) h4,q4n]
    cases hp:q4n m u with
    | none=>rfl
    | some p=>simp [List.append_assoc]
theorem qug (hf:300≤fu) : ∀ (m n:Nat) (x:GReader) (l:List Int) (d:GFrame),m<n→m<256→d.deps.length+m≤300→d.at_=[]→d.vals=[]→Rd8 x l→(∀ c∈l,0≤c∧c<256) →
  qcx fu n x d m=some (q7e ((q1z m l).bind fun q=>q4o d.kind d.node d.id d.ops (d.deps++q.1) q.2))
 | m,0,_,_,_,h,_,_,_,_,_,_=>absurd h (by omega)
 | 0,n+1,x,l,d,_,_,_,ha,hv,hx,hr=>by
  rw [qcx,qad (qae (by omega))]
  unfold qgc
  rw [qad rfl]
  cases l with
  | nil =>
   obtain ⟨x',h1,h2⟩:=qda (fu:=fu) hx
   obtain ⟨q,rfl⟩ : ∃ q,fu=q+1:=⟨fu-1,by omega⟩
   rw [h1,qaa]
   simp only
   rw [qjy h2]
   rfl
  | cons k u =>
   obtain ⟨x',h1,h2⟩:=qbu (fu:=fu) hx
   have hk:=hr k List.mem_cons_self
   rw [h1,qaa]
   simp only
   have e:k=((k.toNat:Nat):Int):=by omega
   have h3:=quf (fu:=fu) (by omega) k.toNat fu x' u d (by omega) (by omega) (by rw [ha];simp;omega) (by rw [hv];simp;omega) h2
   rw [← e] at h3
   rw [h3,ha,hv]
   simp [q1z,q4o]
 | m+1,n+1,x,l,d,hn,hm,hd,ha,hv,hx,hr=>by
  have hy:(((m+1:Nat):Int))>0:=by omega
  have e1:IntKind.wrap .i64 (((m+1:Nat):Int)-1)=(m:Int):=by rw [qds (by omega) (by omega)];omega
  rw [qcx,qaj (qaf hy)]
  unfold qgc qlk
  rw [hx.ok,qaj (c := !false) rfl]
  cases l with
  | nil =>
   obtain ⟨x',h1,h2⟩:=qda (fu:=fu) hx
   simp only [h1,qaa]
   rw [qbx (by have:Rep.bytes Int=8:=rfl;rw [this];simp;omega),qaa,e1]
   obtain ⟨n,rfl⟩ : ∃ q,n=q+1:=⟨n-1,by omega⟩
   rw [qmp (by omega) h2]
   rfl
  | cons k t =>
   obtain ⟨x',h1,h2⟩:=qbu (fu:=fu) hx
   simp only [h1,qaa]
   rw [qbx (by have:Rep.bytes Int=8:=rfl;rw [this];simp;omega),qaa,e1]
   rw [qug hf m n x' t { d with deps:=d.deps++[k] } (by omega) (by omega) (by simp;omega) ha hv h2 (fun c hc=>hr c (List.mem_cons_of_mem _ hc))]
   unfold q1z
   by_cases hle:m≤t.length
   ·rw [if_pos hle,if_pos (show m+1≤(k::t).length by simp;exact hle)]
    simp only [List.take_succ_cons,List.drop_succ_cons,List.append_assoc,List.cons_append,List.nil_append,Option.bind_some]
   ·rw [if_neg hle,if_neg (show ¬ m+1≤(k::t).length by simp;omega)]
    rfl
theorem qzj {m:Nat} {t:List Int} (h:t.length<8):q4m (m+1) t=none:=by
 match t,h with
 | [],_=>rfl
 | [_],_=>rfl
 | [_,_],_=>rfl
 | [_,_,_],_=>rfl
 | [_,_,_,_],_=>rfl
 | [_,_,_,_,_],_=>rfl
 | [_,_,_,_,_,_],_=>rfl
 | [_,_,_,_,_,_,_],_=>rfl
 | _::_::_::_::_::_::_::_::_,h=>simp at h;omega
theorem q4q {t:List Int} (h : ¬ t.length<8) : ∃ k y a b c d e f u,t=k::y::a::b::c::d::e::f::u:=by
 match t,h with
 | [],h=>simp at h
 | [_],h=>simp at h
 | [_,_],h=>simp at h
 | [_,_,_],h=>simp at h
 | [_,_,_,_],h=>simp at h
 | [_,_,_,_,_],h=>simp at h
 | [_,_,_,_,_,_],h=>simp at h
 | [_,_,_,_,_,_,_],h=>simp at h
 | k::y::a::b::c::d::e::f::u,_=>exact ⟨k,y,a,b,c,d,e,f,u,rfl⟩
theorem quh (hf:300≤fu) : ∀ (m n:Nat) (x:GReader) (l:List Int) (d:GFrame),m<n→m<256→d.ops.length+m≤300→d.deps=[]→d.at_=[]→d.vals=[]→Rd8 x l→(∀ c∈l,0≤c∧c<256) →
  qcn fu n x d m=some (q7e ((q4m m l).bind fun p=>q4p d.kind d.node d.id (d.ops++p.1) p.2))
 | m,0,_,_,_,h,_,_,_,_,_,_,_=>absurd h (by omega)
 | 0,n+1,x,l,d,_,_,_,hdd,ha,hv,hx,hr=>by
  rw [qcn,qad (qae (by omega))]
  unfold qgd
  rw [qad rfl,q4m]
  simp only [Option.bind_some,List.append_nil]
  cases l with
  | nil =>
   obtain ⟨x',h1,h2⟩:=qda (fu:=fu) hx
   obtain ⟨q,rfl⟩ : ∃ q,fu=q+1:=⟨fu-1,by omega⟩
   rw [h1,qaa]
   simp only
   rw [qmp (by omega) h2]
   rfl
  | cons k u =>
   obtain ⟨x',h1,h2⟩:=qbu (fu:=fu) hx
   have hk:=hr k List.mem_cons_self
   rw [h1,qaa]
   simp only
   have e:k=((k.toNat:Nat):Int):=by omega
   have h3:=qug (fu:=fu) hf k.toNat fu x' u d (by omega) (by omega) (by rw [hdd];simp;omega) ha hv h2 (fun c hc=>hr c (List.mem_cons_of_mem _ hc))
   rw [← e] at h3
   rw [h3,hdd]
   simp [q4p]
 | m+1,n+1,x,l,d,hn,hm,ho,hdd,ha,hv,hx,hr=>by
  have hy:(((m+1:Nat):Int))>0:=by omega
  have e1:IntKind.wrap .i64 (((m+1:Nat):Int)-1)=(m:Int):=by rw [qds (by omega) (by omega)];omega
  rw [qcn,qaj (qaf hy)]
  unfold qgd qlj
  rw [hx.ok,qaj (c := !false) rfl]
  by_cases h8:l.length<8
  ·rw [qzj h8]
   have hbad : ∃ v1 x1 v2 x2 v3 x3,qc8 fu x=some (v1,x1)∧qc8 fu x1=some (v2,x2)∧qfl fu x2=some (v3,x3)∧qvl x3:=by
    cases l with
    | nil =>
     obtain ⟨x1,h1,r1⟩:=qda (fu:=fu) hx
     obtain ⟨v2,x2,h2,r2⟩:=qjc (fu:=fu) r1
     obtain ⟨v3,x3,h3,r3⟩:=qjd (fu:=fu) (by omega) r2
     exact ⟨_,x1,v2,x2,v3,x3,h1,h2,h3,r3⟩
    | cons c t =>
     obtain ⟨x1,h1,r1⟩:=qbu (fu:=fu) hx
     cases t with
     | nil =>
      obtain ⟨x2,h2,r2⟩:=qda (fu:=fu) r1
      obtain ⟨v3,x3,h3,r3⟩:=qjd (fu:=fu) (by omega) r2
      exact ⟨_,x1,_,x2,v3,x3,h1,h2,h3,r3⟩
     | cons c2 u =>
      obtain ⟨x2,h2,r2⟩:=qbu (fu:=fu) r1
      obtain ⟨v3,x3,h3,r3⟩:=qj8 (fu:=fu) (by omega) r2 (by simp at h8;omega)
      exact ⟨_,x1,_,x2,v3,x3,h1,h2,h3,r3⟩
   obtain ⟨v1,x1,v2,x2,v3,x3,h1,h2,h3,r3⟩:=hbad
   simp only [h1,h2,h3,qaa]
   rw [qbx (by have:Rep.bytes GOp=24:=rfl;rw [this];simp;omega),qaa,e1]
   obtain ⟨n,rfl⟩ : ∃ q,n=q+1:=⟨n-1,by omega⟩
   rw [qq9 (by omega) r3]
   rfl
  ·obtain ⟨k,y,a,b,c,dd,e,f,u,rfl⟩:=q4q h8
   obtain ⟨x1,h1,r1⟩:=qbu (fu:=fu) hx
   obtain ⟨x2,h2,r2⟩:=qbu (fu:=fu) r1
   obtain ⟨x3,h3,r3⟩:=qpd (fu:=fu) (by omega) r2
   simp only [h1,h2,h3,qaa]
   rw [qbx (by have:Rep.bytes GOp=24:=rfl;rw [this];simp;omega),qaa,e1]
   rw [quh hf m n x3 u { d with ops:=d.ops++[⟨k,y,q5g a b c dd e f⟩] } (by omega) (by omega) (by simp;omega) hdd ha hv r3 (fun z hz=>hr z (by simp [hz])),q4m]
   cases hp:q4m m u with
   | none=>rfl
   | some p=>simp [List.append_assoc]
theorem qra (hf:300≤fu) {s:ByteArray} (hs:s.size≤140737488351232):qmm fu s=some (qj7 (byL s)):=by
 have hr : ∀ c∈byL s,0≤c∧c<256:=fun c hc=>qlx hc
 have hx:Rd8 { s:=s,bad:=Zr.zd } (byL s):=⟨rfl,rfl,hs⟩
 unfold qmm
 rw [qho hs,qaa,qaa]
 generalize byL s=l at hr hx
 have hbad : ∀ {x:GReader} {d:GFrame} {y:Int},qvl x→qcn fu fu x d y=some (noF,1):=fun {x d y} h=>by
  obtain ⟨q,hq⟩ : ∃ q,fu=q+1:=⟨fu-1,by omega⟩
  have:=qq9 (fu:=fu) (n:=q) (by omega) (d:=d) (y:=y) h
  rw [← hq] at this
  exact this
 have b1 : ∀ {x:GReader},qvl x → ∃ v x',qc8 fu x=some (v,x')∧qvl x':=fun h=>qjc h
 match l,hx,hr with
 | [],hx,_ =>
  obtain ⟨x1,h1,r1⟩:=qda (fu:=fu) hx
  obtain ⟨v2,x2,h2,r2⟩:=b1 r1
  obtain ⟨v3,x3,h3,r3⟩:=b1 r2
  obtain ⟨v4,x4,h4,r4⟩:=b1 r3
  simp only [h1,h2,h3,h4,qaa]
  rw [hbad r4];rfl
 | [a],hx,_ =>
  obtain ⟨x1,h1,r1⟩:=qbu (fu:=fu) hx
  obtain ⟨x2,h2,r2⟩:=qda (fu:=fu) r1
  obtain ⟨v3,x3,h3,r3⟩:=b1 r2
  obtain ⟨v4,x4,h4,r4⟩:=b1 r3
  simp only [h1,h2,h3,h4,qaa]
  rw [hbad r4];rfl
 | [a,b],hx,_ =>
  obtain ⟨x1,h1,r1⟩:=qbu (fu:=fu) hx
  obtain ⟨x2,h2,r2⟩:=qbu (fu:=fu) r1
  obtain ⟨x3,h3,r3⟩:=qda (fu:=fu) r2
  obtain ⟨v4,x4,h4,r4⟩:=b1 r3
  simp only [h1,h2,h3,h4,qaa]
  rw [hbad r4];rfl
 | [a,b,c],hx,_ =>
  obtain ⟨x1,h1,r1⟩:=qbu (fu:=fu) hx
  obtain ⟨x2,h2,r2⟩:=qbu (fu:=fu) r1
  obtain ⟨x3,h3,r3⟩:=qbu (fu:=fu) r2
  obtain ⟨x4,h4,r4⟩:=qda (fu:=fu) r3
  simp only [h1,h2,h3,h4,qaa]
  rw [hbad r4];rfl
 | a::b::c::no::t,hx,hr =>
  obtain ⟨x1,h1,r1⟩:=qbu (fu:=fu) hx
  obtain ⟨x2,h2,r2⟩:=qbu (fu:=fu) r1
  obtain ⟨x3,h3,r3⟩:=qbu (fu:=fu) r2
  obtain ⟨x4,h4,r4⟩:=qbu (fu:=fu) r3
  simp only [h1,h2,h3,h4,qaa]
  have hno:=hr no (by simp)
  have e:no=((no.toNat:Nat):Int):=by omega
  have h5:=quh (fu:=fu) hf no.toNat fu x4 t { kind:=a,node:=b,id:=c,ops:=Zr.zd,deps:=Zr.zd,at_:=Zr.zd,vals:=Zr.zd } (by omega) (by omega) (by show ([]:List GOp).length+_≤_;simp;omega) rfl rfl rfl r4 (fun z hz=>hr z (by simp [hz]))
  rw [← e] at h5
  rw [h5]
  rfl
end
end Go.Proofs.Yteilffoclpgijaa
namespace Go.Proofs.Yteilffoclpgijaa
open Go.RowKit
open Rep (rep)
theorem q9s (k:Nat) (h:k≤17592186043904):IntKind.wrap .i64 ((k:Int)+1)=((k+1:Nat):Int):=by rw [qds (by omega) (by omega)];omega
theorem q89 {s:ByteArray} (h:s.size≤400):strOfNums (([⟨IntKind.wrap .u8 (Int.fdiv (s.size:Int) (2 ^ (min (Int.toNat 8) (IntKind.bits .i64))))⟩,⟨IntKind.wrap .u8 (s.size:Int)⟩]:List Byt).map Byt.val)=strOfNums [(s.size:Int) / 256,(s.size:Int)%256]:=by
 have e:(2:Int) ^ (min (Int.toNat 8) (IntKind.bits .i64))=256:=by decide
 have e1:IntKind.wrap .u8 (Int.fdiv (s.size:Int) (2 ^ (min (Int.toNat 8) (IntKind.bits .i64))))=(s.size:Int) / 256:=by
  rw [e,wr8,Int.fdiv_eq_ediv_of_nonneg _ (by omega)]
  omega
 have e2:IntKind.wrap .u8 (s.size:Int)=(s.size:Int)%256:=wr8 _
 simp only [List.map_cons,List.map_nil,e1,e2]
theorem qse {log s:ByteArray} {c:Int} (h:qe4 log s=c) (hc:c≠0):qto log s=log:=by unfold qto;rw [h,if_neg hc]
theorem qpe {fu:Nat} {log s:ByteArray} (hs:s.size≤140737488351232):qjt fu log s=some (qto log s,qe4 log s):=by
 unfold qjt qg5
 by_cases h1:65536<log.size
 ·have hc:qe4 log s=2:=by unfold qe4;rw [if_pos h1]
  rw [qaj (qaf (by omega)),qse hc (by decide),hc]
 ·rw [qad (qae (by omega))]
  by_cases h2:s.size=0
  ·have hc:qe4 log s=1:=by unfold qe4;rw [if_neg h1,if_pos (.inl h2)]
   rw [qaj (qaf (by omega)),cond_true,qse hc (by decide),hc]
  ·rw [qad (qae (by omega))]
   by_cases h3:400<s.size
   ·have hc:qe4 log s=1:=by unfold qe4;rw [if_neg h1,if_pos (.inr h3)]
    rw [qaf (by omega),cond_true,qse hc (by decide),hc]
   ·rw [qae (by omega),cond_false,qds (x:=(log.size:Int)+2) (by omega) (by omega),qds (by omega) (by omega)]
    by_cases h4:65536<log.size+2+s.size
    ·have hc:qe4 log s=5:=by unfold qe4;rw [if_neg h1,if_neg (by omega),if_pos h4]
     rw [qaj (qaf (by omega)),qse hc (by decide),hc]
    ·have hc:qe4 log s=0:=by unfold qe4;rw [if_neg h1,if_neg (by omega),if_neg h4]
     have hz:(strOfNums [(s.size:Int) / 256,(s.size:Int)%256]).size=2:=rfl
     have hw:qto log s=qgy log s:=by unfold qto;rw [if_pos hc]
     rw [qad (qae (by omega)),qjs,q89 (by omega),q5f (by omega),qaa,q5f (by rw [ByteArray.size_append];omega),qaa,hc,hw]
     rfl
theorem qzk {fu:Nat} {log s:ByteArray} {n:Int} (hs:s.size≤140737488351232):qo6 fu log s n=some (qg0 log s n):=by
 unfold qo6
 rw [qpe hs,qaa]
 rcases qr4 log s with ⟨h0,h1,h2,h3⟩ | ⟨h0,_⟩
 ·have hw:qto log s=qgy log s:=by unfold qto;rw [if_pos h0]
  have hsz:=qgz log s
  unfold qg0
  rw [h0,hw,qad (by rfl),if_pos rfl]
  dsimp only
  rw [qds (x:=((qgy log s).size:Int)-(log.size:Int)) (by omega) (by omega),qds (by omega) (by omega)]
  unfold qyr qgm
  simp only [Option.getD_some,Option.getD_none]
  rw [if_pos (by omega)]
  have e:((log.size:Int)+max 0 (min n (((qgy log s).size:Int)-(log.size:Int)))).toNat=log.size+qej s n:=by
   unfold qej
   split
   ·omega
   ·split<;>omega
  rw [e]
  rfl
 ·unfold qg0
  rw [qaj (by simpa using h0),if_neg h0]
theorem q10 {s:ByteArray} {k:Nat} (h:k<s.size):q0j s (k:Int)=some ((s[k]).toNat:Int):=by
 unfold q0j
 rw [if_pos (by omega),Int.toNat_natCast,getElem?_pos s k h]
 rfl
theorem q11 {s:ByteArray} {k:Nat} (h:k+2≤s.size):orI .i64 (IntKind.wrap .i64 ((IntKind.wrap .i64 (((s[k]).toNat:Nat):Int))*2 ^ (min (Int.toNat 8) (IntKind.bits .i64)))) (IntKind.wrap .i64 (((s[k+1]).toNat:Nat):Int))=((qc2 s[k] s[k+1]:Nat):Int):=by
 have h1:=(s[k]).toNat_lt
 have h2:=(s[k+1]).toNat_lt
 rw [qds (x:=(((s[k]).toNat:Nat):Int)) (by omega) (by omega),qds (x:=(((s[k+1]).toNat:Nat):Int)) (by omega) (by omega),qx1 (by omega) (by omega) (by omega) (by omega)]
 unfold qc2
 omega
theorem qm9 {log:ByteArray} (hl:log.size≤65536) : ∀ (n m k:Nat) (acc:List ByteArray),log.size≤k+m→m<n→k≤log.size→qq4 log acc k→qdj log n acc k=some ((qaq log.data.toList).1,((qaq log.data.toList).2:Int))
 | 0,m,k,_,_,h,_,_=>absurd h (by omega)
 | n+1,m,k,acc,hk,hn,hkl,h=>by
  have hb:Rep.bytes ByteArray=16:=rfl
  have hlen:=h.2.2
  have hdl:log.data.toList.length=log.size:=rfl
  rw [qdj,qds (x:=(k:Int)+2) (by omega) (by omega)]
  by_cases h2:k+2≤log.size
  ·have hstop : ¬ (1≤qc2 log[k] log[k+1]∧qc2 log[k] log[k+1]≤400∧qc2 log[k] log[k+1]≤log.size-k-2)→some (acc,(k:Int))=some ((qaq log.data.toList).1,((qaq log.data.toList).2:Int)):=fun hno=>by
    have he:qaq (log.data.toList.drop k)=([],0):=by
     rw [qxy h2,qhb (by rw [List.length_drop,hdl];omega)]
    rw [qq5 h he]
   have hrn:qc2 log[k] log[k+1]<65536:=by
    have h1:=(log[k]).toNat_lt
    have h2:=(log[k+1]).toNat_lt
    unfold qc2
    omega
   have hi:=q11 h2
   rw [qaj (qaf (by omega)),q10 (by omega),qaa,q9s k (by omega),q10 (by omega),qaa]
   simp only [qg7,qlo,qg6,hi]
   rw [qds (x:=(log.size:Int)-(k:Int)) (by omega) (by omega),qds (x:=(log.size:Int)-(k:Int)-2) (by omega) (by omega)]
   generalize hr:qc2 log[k] log[k+1]=r at hstop hrn
   by_cases c1:r<1
   ·rw [qaj (qaf (by omega)),cond_true];exact hstop (by omega)
   ·rw [qad (qae (by omega))]
    by_cases c2:400<r
    ·rw [qaj (qaf (by omega)),cond_true];exact hstop (by omega)
    ·rw [qad (qae (by omega))]
     by_cases c3:log.size-k-2<r
     ·rw [qaf (by omega),cond_true];exact hstop (by omega)
     ·rw [qae (by omega),cond_false]
      have hnext:=qwm h h2 (by rw [hr];omega)
      rw [hr] at hnext
      have e1:IntKind.wrap .i64 ((k:Int)+IntKind.wrap .i64 (2+(r:Int)))=((k+(2+r):Nat):Int):=by
       rw [qds (x:=2+(r:Int)) (by omega) (by omega),qds (by omega) (by omega)]
       omega
      have e2:qyr log (some (IntKind.wrap .i64 ((k:Int)+2))) (some (IntKind.wrap .i64 (IntKind.wrap .i64 ((k:Int)+2)+(r:Int))))=some (log.extract (k+2) (k+2+r)):=by
       rw [qds (x:=(k:Int)+2) (by omega) (by omega),qds (by omega) (by omega)]
       unfold qyr qgm
       simp only [Option.getD_some]
       rw [if_pos (by omega)]
       have e:((k:Int)+2).toNat=k+2:=by omega
       have e':((k:Int)+2+(r:Int)).toNat=k+2+r:=by omega
       rw [e,e']
       rfl
      have e3:(log.extract (k+2) (k+2+r)).size≤140737488351232:=by
       rw [ByteArray.size_extract]
       omega
      rw [qds (x:=(k:Int)+2) (by omega) (by omega)] at e2
      first
       | rw [e2,qaa,qho e3,qaa,qbx (by rw [hb];simp only [List.length_singleton];omega),qaa,e1]
       | rw [qds (x:=(k:Int)+2) (by omega) (by omega),e2,qaa,qho e3,qaa,qbx (by rw [hb];simp only [List.length_singleton];omega),qaa,e1]
      exact qm9 hl n (m-1) (k+(2+r)) _ (by omega) (by omega) (by omega) hnext
  ·rw [qad (qae (by omega)),qg6]
   have he:qaq (log.data.toList.drop k)=([],0):=qaz (by rw [List.length_drop,hdl];omega)
   rw [qq5 h he]
theorem qzl {fu:Nat} {log:ByteArray} (hl:log.size≤65536) (hf:log.size<fu):qsa fu log=some ((qaq log.data.toList).1,((qaq log.data.toList).2:Int)) :=
 qm9 hl fu log.size 0 [] (by omega) hf (by omega) (qwl log)
theorem qh3 : ∀ (n:Nat) (l:List UInt8),l.length≤n→(qaq l).2≤l.length∧(qaq l).1.length≤l.length ∧ ∀ x∈(qaq l).1,x.size≤400
 | n,[],_=>by rw [qaz (by simp)];simp
 | n,[x],_=>by rw [qaz (by simp)];simp
 | 0,a::b::r,h=>by simp at h
 | n+1,a::b::r,h=>by
  by_cases hk:1≤qc2 a b∧qc2 a b≤400∧qc2 a b≤r.length
  ·have ih:=qh3 n (r.drop (qc2 a b)) (by simp at h ⊢;omega)
   rw [List.length_drop] at ih
   rw [qh2 hk]
   refine ⟨by simp only [List.length_cons];omega,by simp only [List.length_cons];omega,fun x hx => ?_⟩
   rcases List.mem_cons.1 hx with rfl | hx
   ·show (List.take _ r).toArray.size≤400
    simp
    omega
   ·exact ih.2.2 x hx
  ·rw [qhb hk]
   simp
end Go.Proofs.Yteilffoclpgijaa
