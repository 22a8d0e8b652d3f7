/- What the proof of TopSettles rests on, part 3: rules of walks, what functions compute, and plain laws of it. -/
import Derived.Test.YteilffoclpgijaaTopSettlesB2
namespace Go.Proofs.Yteilffoclpgijaa
set_option maxHeartbeats 4000000
set_option maxRecDepth 100000
open Go.RowKit
open Rep (rep)
set_option linter.unusedVariables false
abbrev Zk := @Gives.mk
abbrev Z5 := @qk3
abbrev Ji := @tp28
abbrev Jl := @ts4
abbrev Jm := @q8g
abbrev Kh := @GCase.p1
abbrev V3 := @q8h
abbrev Y9 := @GCase.p2
abbrev K4 := @q8i
abbrev V1 := @GCase.p5
abbrev K5 := @GCase.p3
abbrev Jr := @ia45
abbrev Qw := @q3y
abbrev Ze := @zac
abbrev Zy := @qxe
abbrev Y2 := @St.dropB
abbrev Vc := @ta49
abbrev Ja := @q1j
abbrev Kr := @GFrame.w0
abbrev Ks := @GFrame.w1
abbrev Ku := @GFrame.w2
abbrev Q1 := @q3x
abbrev Q9 := @q5x
abbrev Zc := @qys
abbrev Z2 := @q7x
abbrev Z3 := @q46
abbrev Zt := @q5r
abbrev V4 := @wgy
abbrev K6 := @wgld
abbrev Yj := @wsk
abbrev V7 := @zam
abbrev Y0 := @zao
def qe6 (fu:Nat) (x1:List GOp):Option (List GOp) :=
 (app ([]:List GOp) x1).bind fun l8 =>
 some l8
theorem qkr {M:Mm} {w:World} {vx1:Value} {x1:List GOp} {fu:Nat} {r:(List GOp)} (hA:Agree M w) (hvx1:repL M vx1 x1) (hz:qe6 fu x1=some r) :
    Calls Try.prog 53 #[vx1] w (Gives M w (fun M' u=>repL M' u r)):=by
 refine Zh Try.func53 rfl 8 rfl rfl (by kernel_rfl) fun T hT => ?_
 have hT_0:T 0=vx1:=hT 0
 clear hT
 have hE:=Qg w.heap.size noX M
 have hS:St w noX M [] w:=Zx hA
 rw [qe6] at hz
 refine Qh <|Qi <|Qc (Qj ((.slice none 0 0)) rfl) ?_
 refine Qf (Qa ?_)
 refine Qh <|Qh <|Qi <|Qc (Qe (vx1) hT_0) <|Qc (qr1 rfl rfl Z7 hvx1) ?_
 refine Qf (Qa ?_)
 refine Qr rfl (fun hc2 => ?_) (fun hc2 => ?_)
 replace hz:(some [])=some r:=by rw [qmh hvx1 hc2] at hz;simpa [app] using hz
 refine Qh <|Qi <|Qc (Qj ((.slice none 0 0)) rfl) ?_
 refine Qf (Qa ?_)
 cases hz
 exact Q4 (Qq (Yg rfl rfl (Zk hS hE (Z5 _))))
 refine Qt (Qa ?_)
 refine Qh <|Qi ?_
 refine Qs (qmi q9e hS ?_)
 intro v4 M4 w3 hx4 hv4 hS
 replace hv4:repL M4 v4 ([]:List GOp):=hv4 _
 replace hvx1:=Qz hx4.1 hvx1
 refine Qc (Qe (vx1) hT_0) ?_
 obtain ⟨l8,hr7,hz⟩:=Qb hz
 obtain ⟨hy7,hs7⟩:=Z1 hr7
 refine Qs (Y7 (α := GOp) (j:=0) q9e hS rfl rfl rfl hv4 hvx1 hy7 ?_)
 intro v7 M7 w6 hx7 hv7 hS
 rw [← hs7] at hv7
 clear hr7 hs7
 replace hE:=Qd hE (hx4.trans hx7)
 refine Qc (Qj (v7) rfl) ?_
 refine Qf (Qa ?_)
 cases hz
 exact Q4 (Yg rfl rfl (Zk (Ql hS) hE hv7))
def qb7 (fu:Nat) (x1:List Int):Option (List Int) :=
 (app ([]:List Int) x1).bind fun l8 =>
 some l8
theorem qm6 {M:Mm} {w:World} {vx1:Value} {x1:List Int} {fu:Nat} {r:(List Int)} (hA:Agree M w) (hvx1:repL M vx1 x1) (hz:qb7 fu x1=some r) :
    Calls Try.prog 44 #[vx1] w (qcv M w [] (fun M' u L' => ∃ v0,u=v0∧L'=[.row v0 3 1]∧repL M' v0 r)):=by
 refine Zh Try.func44 rfl 8 rfl rfl (by kernel_rfl) fun T hT => ?_
 have hT_0:T 0=vx1:=hT 0
 clear hT
 have hE:=Qg w.heap.size (qai []) M
 have hS:St w (qai []) M [] w:=Zx hA
 rw [qb7] at hz
 refine Qh <|Qi <|Qc (Qj ((.slice none 0 0)) rfl) ?_
 refine Qf (Qa ?_)
 refine Qh <|Qh <|Qi <|Qc (Qe (vx1) hT_0) <|Qc (qr1 rfl rfl Qu hvx1) ?_
 refine Qf (Qa ?_)
 refine Qr rfl (fun hc2 => ?_) (fun hc2 => ?_)
 replace hz:(some [])=some r:=by rw [qmh hvx1 hc2] at hz;simpa [app] using hz
 refine Qh <|Qi <|Qc (Qj ((.slice none 0 0)) rfl) ?_
 refine Qf (Qa ?_)
 replace hS:=hS.nilRow 3 1
 cases hz
 exact Q4 (Qq (Yg rfl rfl ⟨_,M,_,rfl,hE,(hS.sel (H':=[.row (.slice none 0 0) 3 1]) [0] (by decide) rfl),(.slice none 0 0),rfl,rfl,(Z5 _)⟩))
 refine Qt (Qa ?_)
 refine Qh <|Qi ?_
 refine Qs (qmi Ji hS ?_)
 intro v4 M4 w3 hx4 hv4 hS
 replace hv4:repL M4 v4 ([]:List Int):=hv4 _
 replace hvx1:=Qz hx4.1 hvx1
 refine Qc (Qe (vx1) hT_0) ?_
 obtain ⟨l8,hr7,hz⟩:=Qb hz
 obtain ⟨hy7,hs7⟩:=Z1 hr7
 refine Qs (Y7 (α := Int) (j:=0) Ji hS rfl rfl rfl hv4 hvx1 hy7 ?_)
 intro v7 M7 w6 hx7 hv7 hS
 rw [← hs7] at hv7
 clear hr7 hs7
 replace hE:=Qd hE (hx4.trans hx7)
 refine Qc (Qj (v7) rfl) ?_
 refine Qf (Qa ?_)
 cases hz
 exact Q4 (Yg rfl rfl ⟨_,M7,_,rfl,hE,(hS.sel (H':=[.row v7 3 1]) [0] (by decide) rfl),v7,rfl,rfl,hv7⟩)
def qch (c8:Bool):Option Bool :=
 some c8
def qf4 (c32:Bool):Option Bool :=
 some c32
def qf5 (fu:Nat) (x1:GCase):Option Bool :=
 (bif !x1.begun then
 (bif !x1.fixed then
 (bif (x1.ops.length:Int)==0 then
 (bif (x1.deps.length:Int)==0 then
 (bif decide (x1.told=(Zr.zd:Vector Bool 6)) then
 (bif decide (x1.known=(Zr.zd:Vector Bool 6)) then
 (bif decide (x1.has=(Zr.zd:Vector Bool 4)) then
 qch (decide (x1.values=(Zr.zd:Vector Int 4)))
 else
 qch false)
 else
 qch false)
 else
 qch false)
 else
 qch false)
 else
 qch false)
 else
 qch false)
 else
 (some (qap x1.ops)).bind fun r38 =>
 (bif r38 then
 (some (qav x1.deps)).bind fun r43 =>
 qf4 r43
 else
 qf4 false))
theorem qks {M:Mm} {w:World} {cx1:List Value} {x1:GCase} {fu:Nat} {r:Bool} (hA:Agree M w) (hcx1:rep M cx1 x1) (hz:qf5 fu x1=some r) :
    Calls Try.prog 39 #[.agg cx1.toArray] w (qc1 w (.bool r)):=by
 refine Zh Try.func39 rfl 53 rfl rfl (by kernel_rfl) fun T hT => ?_
 have hT_0:T 0 = .agg cx1.toArray:=hT 0
 clear hT
 have hE:=Qg w.heap.size noX M
 have hS:St w noX M [] w:=Zx hA
 rw [qf5] at hz
 refine Qh <|Qi ?_
 refine Qs (Yo (v := .agg cx1.toArray) (cs:=cx1) hT_0 rfl hS ?_)
 intro b3 w2 hb3 hS
 refine Qc (Qj (.bool false) rfl) ?_
 refine Qf (Qa ?_)
 refine Qh <|Qh <|Qi <|Qc (Qp qxp rfl) <|Qc (Qm (.bool x1.begun) Jl rfl (hS.bvB 0 rfl) (GCase.p0 (rr hcx1))) <|Qc (Ye rfl) ?_
 refine Qf (Qa ?_)
 refine Qr rfl (fun hc4 => ?_) (fun hc4 => ?_)
 replace hz:=Qn hz hc4
 refine Q0 (fun T' w' => ∃ M6 c8,Mm.ext w.heap.size noX M M6∧St w noX M6 [.box b3 cx1 49] w'∧T' 2 = .bool c8∧qch c8=some r) ?_ ?_
 have hF10:=Qg w.heap.size noX M
 refine Qi <|Qc (Qp Jm rfl) <|Qc (Qm (.bool x1.fixed) Jl rfl (hS.bvB 0 rfl) (Kh (rr hcx1))) <|Qc (Ye rfl) <|Qc (Qe (.bool (!x1.fixed)) rfl) ?_
 rcases ic hz with ⟨hc11,hz⟩ | ⟨hc11,hz⟩<;>rw [hc11]
 refine Qk rfl rfl (Qp V3 rfl) ?_
 obtain ⟨v12,ev12,hv12⟩:=(Y9 (rr hcx1))
 refine Qk rfl rfl (Qm v12 Vp rfl (hS.bvB 0 rfl) ev12) ?_
 obtain ⟨a13,c13,hv13,_⟩:=Q3 hv12
 refine Qk rfl rfl (Zj Z7 (Vv hv13 rfl)) <|Qk rfl rfl (Yd rfl rfl) <|Q2 2 rfl ?_
 rcases ic hz with ⟨hc14,hz⟩ | ⟨hc14,hz⟩<;>rw [hc14]
 refine Qk rfl rfl (Qp K4 rfl) ?_
 obtain ⟨v15,ev15,hv15⟩:=(V1 (rr hcx1))
 refine Qk rfl rfl (Qm v15 Z4 rfl (hS.bvB 0 rfl) ev15) ?_
 obtain ⟨a16,c16,hv16,_⟩:=Q3 hv15
 refine Qk rfl rfl (Zj Qu (Vv hv16 rfl)) <|Qk rfl rfl (Yd rfl rfl) <|Q2 2 rfl ?_
 rcases ic hz with ⟨hc17,hz⟩ | ⟨hc17,hz⟩<;>rw [hc17]
 refine Qk rfl rfl (Qp qth rfl) ?_
 have ha18:=(K5 (rr hcx1))
 refine Qk rfl rfl (Zf ta45 rfl (hS.bvB 0 rfl) (Rep.len ha18)) ?_
 have z19:rep M (Zr.zc (Vector Bool 6)) (Zr.zd:Vector Bool 6):=Zr.zr
 refine Qk rfl rfl (qta tz45 Jr) <|Qk rfl rfl (q3z rfl rfl eg45 ha18 z19) <|Q2 2 rfl ?_
 rcases ic hz with ⟨hc20,hz⟩ | ⟨hc20,hz⟩<;>rw [hc20]
 refine Qk rfl rfl (Qp q03 rfl) ?_
 have ha21:=(GCase.p4 (rr hcx1))
 refine Qk rfl rfl (Zf ta45 rfl (hS.bvB 0 rfl) (Rep.len ha21)) ?_
 have z22:rep M (Zr.zc (Vector Bool 6)) (Zr.zd:Vector Bool 6):=Zr.zr
 refine Qk rfl rfl (qta tz45 Jr) <|Qk rfl rfl (q3z rfl rfl eg45 ha21 z22) <|Q2 2 rfl ?_
 rcases ic hz with ⟨hc23,hz⟩ | ⟨hc23,hz⟩<;>rw [hc23]
 refine Qk rfl rfl (Qp qxq rfl) ?_
 have ha24:=(GCase.p6 (rr hcx1))
 refine Qk rfl rfl (Zf ta46 rfl (hS.bvB 0 rfl) (Rep.len ha24)) ?_
 have z25:rep M (Zr.zc (Vector Bool 4)) (Zr.zd:Vector Bool 4):=Zr.zr
 refine Qk rfl rfl (qta tz46 q9g) <|Qk rfl rfl (q3z rfl rfl eg46 ha24 z25) <|Q2 2 rfl ?_
 rcases ic hz with ⟨hc26,hz⟩ | ⟨hc26,hz⟩<;>rw [hc26]
 refine Qk rfl rfl (Qp q04 rfl) ?_
 have ha27:=(GCase.p7 (rr hcx1))
 refine Qk rfl rfl (Zf ta47 rfl (hS.bvB 0 rfl) (Rep.len ha27)) ?_
 have z28:rep M (Zr.zc (Vector Int 4)) (Zr.zd:Vector Int 4):=Zr.zr
 refine Qk rfl rfl (qta tz47 zaw) <|Qk rfl rfl (q3z rfl rfl eg47 ha27 z28) <|Q2 2 rfl ?_
 refine Qf (Qa ?_)
 exact ⟨M,(decide (x1.values=(Zr.zd:Vector Int 4))),hF10,hS,rfl,hz⟩
 refine Q2 6 rfl ?_
 refine Qf (Qa ?_)
 exact ⟨M,false,hF10,hS,rfl,hz⟩
 refine Q2 12 rfl ?_
 refine Qf (Qa ?_)
 exact ⟨M,false,hF10,hS,rfl,hz⟩
 refine Q2 18 rfl ?_
 refine Qf (Qa ?_)
 exact ⟨M,false,hF10,hS,rfl,hz⟩
 refine Q2 24 rfl ?_
 refine Qf (Qa ?_)
 exact ⟨M,false,hF10,hS,rfl,hz⟩
 refine Q2 30 rfl ?_
 refine Qf (Qa ?_)
 exact ⟨M,false,hF10,hS,rfl,hz⟩
 refine Q2 36 rfl ?_
 refine Qf (Qa ?_)
 exact ⟨M,false,hF10,hS,rfl,hz⟩
 rintro T7 w5 ⟨M6,c8,hx9,hS,hT7_2,hz⟩
 rw [qch] at hz
 cases hz
 exact Q4 (Qq (Yg rfl hT7_2 ⟨rfl,(Ql hS).kept⟩))
 replace hz:=Qo hz hc4
 refine Qt (Qa ?_)
 refine Q0 (fun T' w' => ∃ M30 c32,Mm.ext w.heap.size noX M M30∧St w noX M30 [.box b3 cx1 49] w'∧T' 2 = .bool c32∧qf4 c32=some r) ?_ ?_
 have hF34:=Qg w.heap.size noX M
 refine Qi <|Qc (Qp V3 rfl) ?_
 obtain ⟨v35,ev35,hv35⟩:=(Y9 (rr hcx1))
 refine Qc (Qm v35 Vp rfl (hS.bvB 0 rfl) ev35) ?_
 obtain ⟨r38,hr37,hz⟩:=Qb hz
 replace hr37:=Option.some.inj hr37
 refine Qs (Z6 (vs:=[v35]) (v := .bool r38) q9o (Zu rfl) hS (hr37 ▸ (qla hS.agree hv35)) ?_)
 intro w36 hS
 refine Qc (Qe (.bool r38) rfl) ?_
 rcases ic hz with ⟨hc39,hz⟩ | ⟨hc39,hz⟩<;>rw [hc39]
 refine Qk rfl rfl (Qp K4 rfl) ?_
 obtain ⟨v40,ev40,hv40⟩:=(V1 (rr hcx1))
 refine Qk rfl rfl (Qm v40 Z4 rfl (hS.bvB 0 rfl) ev40) ?_
 obtain ⟨r43,hr42,hz⟩:=Qb hz
 replace hr42:=Option.some.inj hr42
 refine Kf rfl rfl (Z6 (vs:=[v40]) (v := .bool r43) q6g (Zu rfl) hS (hr42 ▸ (Kq hS.agree hv40)) ?_)
 intro w41 hS
 refine Q2 2 rfl ?_
 refine Qf (Qa ?_)
 exact ⟨M,r43,hF34,hS,rfl,hz⟩
 refine Q2 5 rfl ?_
 refine Qf (Qa ?_)
 exact ⟨M,false,hF34,hS,rfl,hz⟩
 rintro T31 w29 ⟨M30,c32,hx33,hS,hT31_2,hz⟩
 rw [qf4] at hz
 cases hz
 exact Q4 (Yg rfl hT31_2 ⟨rfl,(Ql hS).kept⟩)
def qn1 (y10:Int) (rec11:Int→Option Bool):Option Bool :=
 rec11 (IntKind.wrap .i64 (y10+1))
def qlc (y10:Int) (rec11:Int→Option Bool) (c32:Bool):Option Bool :=
 (bif c32 then
 some false
 else
 qn1 y10 rec11)
def qe0 (x1:GCase) (x2:Int):Nat→Int→Option Bool
 | 0,_=>none
 | n+1,y10 =>
 (bif decide (y10<(x1.ops.length:Int)) then
 (idx x1.ops y10).bind fun x22 =>
 (some x22).bind fun d28 =>
 (some (qas d28.key)).bind fun r38 =>
 (bif r38==x2 then
 (inR y10 4).bind fun _ =>
 (qa7 x1.has y10).bind fun x42 =>
 qlc y10 (qe0 x1 x2 n) (!x42)
 else
 qlc y10 (qe0 x1 x2 n) false)
 else
 some true)
def qtt (fu:Nat) (x1:GCase) (x2:Int):Option Bool :=
 qe0 x1 x2 fu 0
theorem qxv {M:Mm} {w:World} {cx1:List Value} {x1:GCase} {x2:Int} {fu:Nat} {r:Bool} (hA:Agree M w) (hcx1:rep M cx1 x1) (hz:qtt fu x1 x2=some r) :
    Calls Try.prog 58 #[.agg cx1.toArray,.int .i64 x2] w (qc1 w (.bool r)):=by
 refine Zh Try.func58 rfl 28 rfl rfl (by kernel_rfl) fun T hT => ?_
 have hT_0:T 0 = .agg cx1.toArray:=hT 0
 have hT_1:T 1 = .int .i64 x2:=hT 1
 clear hT
 have hE:=Qg w.heap.size noX M
 have hS:St w noX M [] w:=Zx hA
 rw [qtt] at hz
 refine Qh <|Qi ?_
 refine Qs (Yo (v := .agg cx1.toArray) (cs:=cx1) hT_0 rfl hS ?_)
 intro b4 w3 hb4 hS
 refine Qc (Qj (.bool false) rfl) ?_
 refine Qf (Qa ?_)
 refine Qh <|Qh <|Qi <|Qc (Qp V3 rfl) ?_
 obtain ⟨v5,ev5,hv5⟩:=(Y9 (rr hcx1))
 refine Qc (Qm v5 Vp rfl (hS.bvB 0 rfl) ev5) ?_
 obtain ⟨a6,c6,hv6,_⟩:=Q3 hv5
 refine Qc (Zj Z7 (Vv hv6 rfl)) <|Qc (Qe (.int .i64 0) rfl) ?_
 refine Qf (Qa ?_)
 refine Qv ?_
 refine Zw (fun k12 T' w' => ∃ M8 y10,Mm.ext w.heap.size noX M M8∧St w noX M8 [.box b4 cx1 49] w'∧T' 1 = .int .i64 x2∧T' 2 = .pointer (some ⟨b4,0,none⟩)∧T' 8=v5∧T' 9 = .int .i64 (x1.ops.length:Int)∧T' 10 = .int .i64 y10∧qe0 x1 x2 k12 y10=some r) fu ?_ ?_ ?_
 exact ⟨M,(0:Int),(Qg _ _ _),hS,hT_1,rfl,rfl,rfl,rfl,hz⟩
 rintro T' w' ⟨_,_,_,_,_,_,_,_,_,hz⟩
 rw [qe0] at hz
 cases hz
 intro k12
 rintro T9 w7 ⟨M8,y10,hx14,hS,hT9_1,hT9_2,hT9_8,hT9_9,hT9_10,hz⟩
 replace hcx1:=Rep.mono hx14.1 hcx1
 replace hv5:=Qz hx14.1 hv5
 have hF13:=hx14
 rw [qe0] at hz
 obtain ⟨rec11,hrec11⟩ : ∃ f,f=qe0 x1 x2 k12:=⟨_,rfl⟩
 rw [← hrec11] at hz
 refine Qh <|Qi <|Qc (Zv hT9_10 hT9_9) ?_
 refine Qf (Qa ?_)
 refine Qh ?_
 refine Qr rfl (fun hc15 => ?_) (fun hc15 => ?_)
 replace hz:=Qn hz hc15
 refine Qt (Qa ?_)
 refine Q0 (fun T' w' => ∃ M17,Mm.ext w.heap.size noX M8 M17∧St w noX M17 [.box b4 cx1 49] w'∧T' 1 = .int .i64 x2∧T' 2 = .pointer (some ⟨b4,0,none⟩)∧T' 8=v5∧T' 9 = .int .i64 (x1.ops.length:Int)∧T' 10 = .int .i64 y10∧qn1 y10 rec11=some r) ?_ ?_
 have hF20:=Qg w.heap.size noX M8
 refine Qv <|Qh <|Qi <|Qc (Qe (.int .i64 y10) hT9_10) ?_
 obtain ⟨x22,hx21,hz⟩:=Qb hz
 obtain ⟨b21,o21,c21,p21,hv21,hi21,hj21,hM21,hr21⟩:=Yf hv5 hx21
 replace hr21:rep _ (sl p21 (o21+Int.toNat y10*3) 3) x22:=hr21
 refine Qc (Ys q9d hT9_8 hv21 hT9_10 hi21 hj21) ?_
 have ha23:=hr21
 refine Qc (Zf q9j rfl (hS.bvM hM21) (Rep.len ha23)) ?_
 refine Qs (Zg q9k hS ?_)
 intro b25 w24 hb25 hS
 have zb25:rep M8 (Zr.zc GOp) (Zr.zd:GOp):=Zr.zr
 refine Qc (Qj (.int .i64 y10) rfl) ?_
 obtain ⟨d28,hd27,hz⟩:=Qb hz
 refine Qs (Q8 0 3 hS rfl zb25 rfl rfl ha23 rfl rfl (Lf (rr zb25) ha23) hd27 ?_)
 intro cs27 w26 hb27 ha27 hs27 hS
 refine Qf (Qa ?_)
 refine Q0 (fun T' w' => ∃ M30 c32,Mm.ext w.heap.size noX M8 M30∧St w noX M30 [.box b25 cs27 65,.box b4 cx1 49] w'∧T' 1 = .int .i64 x2∧T' 2 = .pointer (some ⟨b4,0,none⟩)∧T' 8=v5∧T' 9 = .int .i64 (x1.ops.length:Int)∧T' 10 = .int .i64 y10∧T' 26 = .bool c32∧qlc y10 rec11 c32=some r) ?_ ?_
 have hF35:=Qg w.heap.size noX M8
 refine Qi <|Qc (Qp qoq rfl) <|Qc (Qm (.int .i64 d28.key) Yb rfl (hS.bvB 0 rfl) (GOp.p1 (rr hb27))) ?_
 obtain ⟨r38,hr37,hz⟩:=Qb hz
 replace hr37:=Option.some.inj hr37
 refine Qs (Z6 (vs:=[.int .i64 d28.key]) (v := .int .i64 r38) zba (Zu rfl) hS (hr37 ▸ (qwc)) ?_)
 intro w36 hS
 refine Qc (Qe (.int .i64 x2) hT9_1) <|Qc (Yd rfl rfl) <|Qc (Qe (.bool (r38==x2)) rfl) ?_
 rcases ic hz with ⟨hc39,hz⟩ | ⟨hc39,hz⟩<;>rw [hc39]
 refine Qk rfl rfl (Qe (.int .i64 y10) rfl) <|Qk rfl rfl (Qp qxq hT9_2) ?_
 obtain ⟨u40,hx41,hz⟩:=Qb hz
 obtain ⟨hx41a,hx41b⟩:=Qw hx41
 refine Qk rfl rfl (Ze q9g rfl rfl hx41a hx41b) ?_
 obtain ⟨x42,hx43,hz⟩:=Qb hz
 refine Qk rfl rfl (Qm (.bool x42) Jl rfl (hS.bvB 1 rfl) (vp (k:=1) rfl rfl (GCase.p6 (rr hcx1)) hx43)) <|Qk rfl rfl (Ye rfl) <|Qc (Zy (.bool (!x42)) rfl rfl) ?_
 refine Qf (Qa ?_)
 exact ⟨M8,(!x42),hF35,hS,hT9_1,hT9_2,hT9_8,hT9_9,hT9_10,rfl,hz⟩
 refine Q2 6 rfl ?_
 refine Qf (Qa ?_)
 exact ⟨M8,false,hF35,hS,hT9_1,hT9_2,hT9_8,hT9_9,hT9_10,rfl,hz⟩
 rintro T31 w29 ⟨M30,c32,hx33,hS,hT31_1,hT31_2,hT31_8,hT31_9,hT31_10,hT31_26,hz⟩
 replace hF20:=Qd hF20 hx33
 rw [qlc] at hz
 refine Qr hT31_26 (fun hc34 => ?_) (fun hc34 => ?_)
 replace hz:=Qn hz hc34
 refine Qh <|Qi <|Qc (Qj (.bool false) rfl) ?_
 refine Qf (Qa ?_)
 cases hz
 exact Q4 (Zb (Qq (Qq (Zb (Qq (Yg rfl rfl ⟨rfl,(Ql (Ql hS)).kept⟩))))))
 replace hz:=Qo hz hc34
 refine Qt (Za ?_)
 refine (Qa ?_)
 exact ⟨M30,hF20,(Y2 hS hb25),hT31_1,hT31_2,hT31_8,hT31_9,hT31_10,hz⟩
 rintro T18 w16 ⟨M17,hx19,hS,hT18_1,hT18_2,hT18_8,hT18_9,hT18_10,hz⟩
 replace hF13:=Qd hF13 hx19
 rw [qn1] at hz
 refine Qi <|Qc (Zz hT18_10 rfl) <|Qc (Qe (.int .i64 (IntKind.wrap .i64 (y10+1))) rfl) ?_
 refine Qf (Qa ?_)
 exact ⟨M17,(IntKind.wrap .i64 (y10+1)),hF13,hS,hT18_1,hT18_2,hT18_8,hT18_9,rfl,(by rw [← hrec11];exact hz)⟩
 replace hz:=Qo hz hc15
 refine Zq <|Qy <|Qy <|Zs ?_
 refine (Qa ?_)
 refine Qh <|Qi <|Qc (Qj (.bool true) rfl) ?_
 refine Qf (Qa ?_)
 cases hz
 exact Q4 (Yg rfl rfl ⟨rfl,(Ql hS).kept⟩)
def qjl (y15:Int) (rec16:(List GFrame)→Int→Option (List GFrame)) (l24:List GFrame):Option (List GFrame) :=
 rec16 l24 (IntKind.wrap .i64 (y15+1))
def qhp (x1:GCase) (x2:Int) (l13:List GFrame) (y15:Int) (rec16:(List GFrame)→Int→Option (List GFrame)) (c57:Bool):Option (List GFrame) :=
 (bif c57 then
 (some ({ kind:=3,node:=y15,id:=x2,ops:=x1.ops,deps:=x1.deps,at_:=Zr.zd,vals:=Zr.zd }:GFrame)).bind fun d63 =>
 (app l13 ([d63]:List GFrame)).bind fun l68 =>
 qjl y15 rec16 l68
 else
 qjl y15 rec16 l13)
def qjm (fu:Nat) (x1:GCase) (x2:Int) (l13:List GFrame) (y15:Int) (rec16:(List GFrame)→Int→Option (List GFrame)) (r38:Bool) (c43:Bool):Option (List GFrame) :=
 (bif c43 then
 (some ({ kind:=1,node:=y15,id:=x2,ops:=x1.ops,deps:=Zr.zd,at_:=Zr.zd,vals:=Zr.zd }:GFrame)).bind fun d48 =>
 (app l13 ([d48]:List GFrame)).bind fun l53 =>
 qjl y15 rec16 l53
 else
 (bif x1.fixed then
 (inR y15 6).bind fun _ =>
 (qa7 x1.known y15).bind fun x76 =>
 (bif !x76 then
 qhp x1 x2 l13 y15 rec16 true
 else
 (bif r38 then
 (some (ofZ y15)).bind fun r83 =>
 (qtt fu x1 r83).bind fun r87 =>
 qhp x1 x2 l13 y15 rec16 (!r87)
 else
 qhp x1 x2 l13 y15 rec16 false))
 else
 qhp x1 x2 l13 y15 rec16 false))
def qd6 (fu:Nat) (x1:GCase) (x2:Int):Nat→(List GFrame)→Int→Option (List GFrame)
 | 0,_,_=>none
 | n+1,l13,y15 =>
 (bif decide (y15<6) then
 (some (ofZ y15)).bind fun r34 =>
 (some (qac x1.ops r34)).bind fun r38 =>
 (bif !x1.fixed then
 (bif r38 then
 (inR y15 6).bind fun _ =>
 (qa7 x1.told y15).bind fun x94 =>
 qjm fu x1 x2 l13 y15 (qd6 fu x1 x2 n) r38 (!x94)
 else
 qjm fu x1 x2 l13 y15 (qd6 fu x1 x2 n) r38 false)
 else
 qjm fu x1 x2 l13 y15 (qd6 fu x1 x2 n) r38 false)
 else
 some l13)
def qn2 (fu:Nat) (x1:GCase) (x2:Int):Option (List GFrame) :=
 qd6 fu x1 x2 fu ([]:List GFrame) 0
def qgp (fu:Nat) (x1:GCase) (x2:Int) (c100:Bool):Option (List GFrame) :=
 (bif c100 then
 some []
 else
 qn2 fu x1 x2)
def qo0 (fu:Nat) (x1:GCase) (x2:Int):Option (List GFrame) :=
 (qf5 fu x1).bind fun r107 =>
 (bif !r107 then
 qgp fu x1 x2 true
 else
 (bif !x1.begun then
 qgp fu x1 x2 true
 else
 (bif decide (x2<0) then
 qgp fu x1 x2 true
 else
 (bif decide (x2≥32) then
 qgp fu x1 x2 true
 else
 (some (qcp x1.deps x2)).bind fun r115 =>
 qgp fu x1 x2 r115))))
theorem qr6 {M:Mm} {w:World} {cx1:List Value} {x1:GCase} {x2:Int} {fu:Nat} {r:(List GFrame)} (hA:Agree M w) (hcx1:rep M cx1 x1) (hz:qo0 fu x1 x2=some r) :
    Calls Try.prog 50 #[.agg cx1.toArray,.int .i64 x2] w (Gives M w (fun M' u=>repL M' u r)):=by
 refine Zh Try.func50 rfl 92 rfl rfl (by kernel_rfl) fun T hT => ?_
 have hT_0:T 0 = .agg cx1.toArray:=hT 0
 have hT_1:T 1 = .int .i64 x2:=hT 1
 clear hT
 have hE:=Qg w.heap.size noX M
 have hS:St w noX M [] w:=Zx hA
 rw [qo0] at hz
 refine Qh <|Qi ?_
 refine Qs (Yo (v := .agg cx1.toArray) (cs:=cx1) hT_0 rfl hS ?_)
 intro b4 w3 hb4 hS
 refine Qc (Qj ((.slice none 0 0)) rfl) ?_
 refine Qf (Qa ?_)
 refine Qh <|Qi <|Qc (Qj ((.slice none 0 0)) rfl) ?_
 refine Qf (Qa ?_)
 refine Q0 (fun T' w' => ∃ M6,Mm.ext w.heap.size noX M M6∧St w noX M6 [.box b4 cx1 49] w'∧T' 1 = .int .i64 x2∧T' 2 = .pointer (some ⟨b4,0,none⟩)∧T' 5=(.slice none 0 0)∧qn2 fu x1 x2=some r) ?_ ?_
 have hF96:=Qg w.heap.size noX M
 refine Q0 (fun T' w' => ∃ M98 c100,Mm.ext w.heap.size noX M M98∧St w noX M98 [.box b4 cx1 49] w'∧T' 1 = .int .i64 x2∧T' 2 = .pointer (some ⟨b4,0,none⟩)∧T' 5=(.slice none 0 0)∧T' 29 = .bool c100∧qgp fu x1 x2 c100=some r) ?_ ?_
 have hF103:=Qg w.heap.size noX M
 refine Qi ?_
 have ha104:=(rr hcx1)
 refine Qc (Zf Vc rfl (hS.bvB 0 rfl) (Rep.len ha104)) ?_
 obtain ⟨r107,hr106,hz⟩:=Qb hz
 refine Qs (Z6 (vs:=[.agg (sl cx1 (0) 24).toArray]) (v := .bool r107) za6 (Zu rfl) hS (qks hS.agree ha104 hr106) ?_)
 intro w105 hS
 refine Qc (Ye rfl) <|Qc (Qe (.bool (!r107)) rfl) ?_
 rcases ic hz with ⟨hc108,hz⟩ | ⟨hc108,hz⟩<;>rw [hc108]
 refine Q2 18 rfl ?_
 refine Qf (Qa ?_)
 exact ⟨M,true,hF103,hS,hT_1,rfl,rfl,rfl,hz⟩
 refine Qk rfl rfl (Qp qxp rfl) <|Qk rfl rfl (Qm (.bool x1.begun) Jl rfl (hS.bvB 0 rfl) (GCase.p0 (rr hcx1))) <|Qk rfl rfl (Ye rfl) <|Q2 2 rfl ?_
 rcases ic hz with ⟨hc109,hz⟩ | ⟨hc109,hz⟩<;>rw [hc109]
 refine Q2 13 rfl ?_
 refine Qf (Qa ?_)
 exact ⟨M,true,hF103,hS,hT_1,rfl,rfl,rfl,hz⟩
 refine Qk rfl rfl (Qe (.int .i64 x2) hT_1) <|Qk rfl rfl (Zv rfl rfl) <|Q2 2 rfl ?_
 rcases ic hz with ⟨hc110,hz⟩ | ⟨hc110,hz⟩<;>rw [hc110]
 refine Q2 9 rfl ?_
 refine Qf (Qa ?_)
 exact ⟨M,true,hF103,hS,hT_1,rfl,rfl,rfl,hz⟩
 refine Qk rfl rfl (Qe (.int .i64 x2) hT_1) <|Qk rfl rfl (Vd rfl rfl) <|Q2 2 rfl ?_
 rcases ic hz with ⟨hc111,hz⟩ | ⟨hc111,hz⟩<;>rw [hc111]
 refine Q2 5 rfl ?_
 refine Qf (Qa ?_)
 exact ⟨M,true,hF103,hS,hT_1,rfl,rfl,rfl,hz⟩
 refine Qk rfl rfl (Qp K4 rfl) ?_
 obtain ⟨v112,ev112,hv112⟩:=(V1 (rr hcx1))
 refine Qk rfl rfl (Qm v112 Z4 rfl (hS.bvB 0 rfl) ev112) <|Qk rfl rfl (Qe (.int .i64 x2) hT_1) ?_
 obtain ⟨r115,hr114,hz⟩:=Qb hz
 replace hr114:=Option.some.inj hr114
 refine Kf rfl rfl (Z6 (vs:=[v112,.int .i64 x2]) (v := .bool r115) q5c (Z8 rfl rfl) hS (hr114 ▸ (Vq hS.agree hv112)) ?_)
 intro w113 hS
 refine Qc (Zi (.bool r115) rfl rfl) ?_
 refine Qf (Qa ?_)
 exact ⟨M,r115,hF103,hS,hT_1,rfl,rfl,rfl,hz⟩
 rintro T99 w97 ⟨M98,c100,hx101,hS,hT99_1,hT99_2,hT99_5,hT99_29,hz⟩
 replace hE:=Qd hE hx101
 replace hF96:=Qd hF96 hx101
 rw [qgp] at hz
 refine Qr hT99_29 (fun hc102 => ?_) (fun hc102 => ?_)
 replace hz:=Qn hz hc102
 refine Qh <|Qi <|Qc (Qj ((.slice none 0 0)) rfl) ?_
 refine Qf (Qa ?_)
 cases hz
 exact Q4 (Qq (Yg rfl rfl (Zk (Ql hS) hE (Z5 _))))
 replace hz:=Qo hz hc102
 refine Qt (Qa ?_)
 exact ⟨M98,hF96,hS,hT99_1,hT99_2,hT99_5,hz⟩
 rintro T7 w5 ⟨M6,hx8,hS,hT7_1,hT7_2,hT7_5,hz⟩
 replace hcx1:=Rep.mono hx8.1 hcx1
 replace hE:=Qd hE hx8
 rw [qn2] at hz
 refine Qh <|Qh <|Qi <|Qc (Qe (.int .i64 0) rfl) ?_
 refine Qf (Qa ?_)
 refine Qv ?_
 replace hS:=hS.nilRow 118 7
 refine Zw (fun k17 T' w' => ∃ M11 v14 l13 y15,Mm.ext w.heap.size noX M6 M11∧St w noX M11 [.row v14 118 7,.box b4 cx1 49] w'∧repL M11 v14 l13∧T' 1 = .int .i64 x2∧T' 2 = .pointer (some ⟨b4,0,none⟩)∧T' 5=v14∧T' 30 = .int .i64 y15∧qd6 fu x1 x2 k17 l13 y15=some r) fu ?_ ?_ ?_
 exact ⟨M6,(.slice none 0 0),([]:List GFrame),(0:Int),(Qg _ _ _),hS,(Z5 _),hT7_1,hT7_2,hT7_5,rfl,hz⟩
 rintro T' w' ⟨_,_,_,_,_,_,_,_,_,_,_,hz⟩
 rw [qd6] at hz
 cases hz
 intro k17
 rintro T12 w10 ⟨M11,v14,l13,y15,hx19,hS,hv14,hT12_1,hT12_2,hT12_5,hT12_30,hz⟩
 replace hcx1:=Rep.mono hx19.1 hcx1
 replace hE:=Qd hE hx19
 have hF18:=hx19
 rw [qd6] at hz
 obtain ⟨rec16,hrec16⟩ : ∃ f,f=qd6 fu x1 x2 k17:=⟨_,rfl⟩
 rw [← hrec16] at hz
 refine Qh <|Qi <|Qc (Zv hT12_30 rfl) ?_
 refine Qf (Qa ?_)
 refine Qh ?_
 refine Qr rfl (fun hc20 => ?_) (fun hc20 => ?_)
 replace hz:=Qn hz hc20
 refine Qt (Qa ?_)
 refine Q0 (fun T' w' => ∃ M22 v25 l24,Mm.ext w.heap.size noX M11 M22∧St w noX M22 [.row v25 118 7,.box b4 cx1 49] w'∧repL M22 v25 l24∧T' 1 = .int .i64 x2∧T' 2 = .pointer (some ⟨b4,0,none⟩)∧T' 5=v25∧T' 30 = .int .i64 y15∧qjl y15 rec16 l24=some r) ?_ ?_
 have hF27:=Qg w.heap.size noX M11
 refine Qv <|Qh <|Qi <|Qc (Qe (.int .i64 y15) hT12_30) <|Qc (Qj (.int .i64 y15) rfl) ?_
 refine Qf (Qa ?_)
 refine Qh <|Yu [.box b4 cx1 49] [] Ya hS fun w28 hS hG29 hR30=>wy 0 rfl (Qp V3 hT12_2) (fun _=>hR30) ?_
 obtain ⟨v31,ev31,hv31⟩:=(Y9 (rr hcx1))
 refine Y8 1 rfl (Qm v31 Vp rfl (Yp 0 rfl) ev31) hR30 <|wy 2 rfl (Qe (.int .i64 y15) rfl) (fun _=>hR30) ?_
 obtain ⟨r34,hr33,hz⟩:=Qb hz
 replace hr33:=Option.some.inj hr33
 refine w1 3 rfl (Z6 (vs:=[.int .i64 y15]) (v := .int .i64 r34) q8v (Zu rfl) hS (hr33 ▸ (q82)) ?_)
 intro w32 hS
 refine Yq hS hG29 fun hR35 => ?_
 obtain ⟨r38,hr37,hz⟩:=Qb hz
 replace hr37:=Option.some.inj hr37
 refine w1 4 rfl (Z6 (vs:=[v31,.int .i64 r34]) (v := .bool r38) q8u (Z8 rfl rfl) hS (hr37 ▸ (Ja hS.agree hv31)) ?_)
 intro w36 hS
 refine Yq hS hG29 fun hR39=>wy 5 rfl (Qj (.bool r38) rfl) (fun _=>hR39) ?_
 refine wd (Qa ?_)
 refine Qv ?_
 refine Q0 (fun T' w' => ∃ M41 c43,Mm.ext w.heap.size noX M11 M41∧St w noX M41 [.row v14 118 7,.box b4 cx1 49] w'∧T' 1 = .int .i64 x2∧T' 2 = .pointer (some ⟨b4,0,none⟩)∧T' 5=v14∧T' 6 = .int .i64 y15∧T' 7 = .bool r38∧T' 30 = .int .i64 y15∧T' 38 = .bool c43∧qjm fu x1 x2 l13 y15 rec16 r38 c43=some r) ?_ ?_
 have hF89:=Qg w.heap.size noX M11
 refine Qi <|Qc (Qp Jm hT12_2) <|Qc (Qm (.bool x1.fixed) Jl rfl (hS.bvB 1 rfl) (Kh (rr hcx1))) <|Qc (Ye rfl) <|Qc (Qe (.bool (!x1.fixed)) rfl) ?_
 rcases ic hz with ⟨hc90,hz⟩ | ⟨hc90,hz⟩<;>rw [hc90]
 refine Q2 3 rfl ?_
 rcases ic hz with ⟨hc91,hz⟩ | ⟨hc91,hz⟩<;>subst hc91
 refine Qk rfl rfl (Qe (.int .i64 y15) rfl) <|Qk rfl rfl (Qp qth hT12_2) ?_
 obtain ⟨u92,hx93,hz⟩:=Qb hz
 obtain ⟨hx93a,hx93b⟩:=Qw hx93
 refine Qk rfl rfl (Ze Jr rfl rfl hx93a hx93b) ?_
 obtain ⟨x94,hx95,hz⟩:=Qb hz
 refine Qk rfl rfl (Qm (.bool x94) Jl rfl (hS.bvB 1 rfl) (vp (k:=1) rfl rfl (K5 (rr hcx1)) hx95)) <|Qk rfl rfl (Ye rfl) <|Q2 2 rfl ?_
 refine Qf (Qa ?_)
 exact ⟨M11,(!x94),hF89,hS,hT12_1,hT12_2,hT12_5,rfl,rfl,hT12_30,rfl,hz⟩
 refine Q2 7 rfl ?_
 refine Qf (Qa ?_)
 exact ⟨M11,false,hF89,hS,hT12_1,hT12_2,hT12_5,rfl,rfl,hT12_30,rfl,hz⟩
 refine Q2 10 rfl ?_
 refine Qf (Qa ?_)
 exact ⟨M11,false,hF89,hS,hT12_1,hT12_2,hT12_5,rfl,rfl,hT12_30,rfl,hz⟩
 rintro T42 w40 ⟨M41,c43,hx44,hS,hT42_1,hT42_2,hT42_5,hT42_6,hT42_7,hT42_30,hT42_38,hz⟩
 replace hcx1:=Rep.mono hx44.1 hcx1
 replace hv14:=Qz hx44.1 hv14
 replace hF27:=Qd hF27 hx44
 rw [qjm] at hz
 refine Qr hT42_38 (fun hc45 => ?_) (fun hc45 => ?_)
 replace hz:=Qn hz hc45
 refine Qi <|Qc (Qe (v14) hT42_5) <|Qc (Qe (.int .i64 y15) hT42_6) <|Qc (Qe (.int .i64 x2) hT42_1) <|Qc (Qp V3 hT42_2) ?_
 obtain ⟨v46,ev46,hv46⟩:=(Y9 (rr hcx1))
 refine Qc (Qm v46 Vp rfl (hS.bvB 1 rfl) ev46) ?_
 have k47_0:=Kr (Zr.zr:rep M41 (Zr.zc GFrame) (Zr.zd:GFrame)) (ri 1:rep M41 _ _)
 have k47_1:=Ks k47_0 (ri y15:rep M41 _ _)
 have k47_2:=Ku k47_1 (ri x2:rep M41 _ _)
 have k47_3:=GFrame.w3 k47_2 (Q1 hv46)
 obtain ⟨d48,hd47,hz⟩:=Qb hz
 obtain ⟨cs47,hf47,ha47⟩ : ∃ cs,qbj (([(0,1),(1,1),(2,1),(3,1),(4,1),(5,1),(6,1)]:List (Nat × Nat))[·]?) (Zr.zc GFrame) [(0,.int .i64 1),(1,.int .i64 y15),(2,.int .i64 x2),(3,v46)]=some cs∧rep M41 cs d48:=⟨_,(Q9 (Zr.zr:rep M41 (Zr.zc GFrame) (Zr.zd:GFrame)) rfl rfl (Rep.len (ri 1:rep M41 _ _)) (by decide) (Q9 k47_0 rfl rfl (Rep.len (ri y15:rep M41 _ _)) (by decide) (Q9 k47_1 rfl rfl (Rep.len (ri x2:rep M41 _ _)) (by decide) (Q9 k47_2 rfl (Zc hv46) (Rep.len (Q1 hv46)) (by decide) Z2)))),Z3 (x:=({ kind:=1,node:=y15,id:=x2,ops:=x1.ops,deps:=Zr.zd,at_:=Zr.zd,vals:=Zr.zd }:GFrame)) k47_3 hd47⟩
 refine Qc (Zt [(0,.int .i64 1),(1,.int .i64 y15),(2,.int .i64 x2),(3,v46)] qv5 (Ym rfl (Ym rfl (Ym rfl (Ym rfl Vb)))) hf47) ?_
 refine Qs (Z0 (α := GFrame) (l:=([d48]:List GFrame)) [.agg cs47.toArray] q8s (Ym rfl Vb) rfl rfl (by decide) (by decide) (by decide) hS (K3 ha47 Jk) ?_)
 intro v50 M50 w49 hx50 hv50 hS
 replace hv14:=Qz hx50.1 hv14
 obtain ⟨l53,hr52,hz⟩:=Qb hz
 obtain ⟨hy52,hs52⟩:=Z1 hr52
 refine Qs (Y7 (α := GFrame) (j:=0) q8r hS rfl rfl rfl hv14 hv50 hy52 ?_)
 intro v52 M52 w51 hx52 hv52 hS
 rw [← hs52] at hv52
 clear hr52 hs52
 replace hF27:=Qd hF27 (hx50.trans hx52)
 refine Qc (Qj (v52) rfl) ?_
 refine Qf (Za ?_)
 refine (Za ?_)
 refine (Qa ?_)
 exact ⟨M52,v52,l53,hF27,hS,hv52,hT42_1,hT42_2,rfl,hT42_30,hz⟩
 replace hz:=Qo hz hc45
 refine Q0 (fun T' w' => ∃ M55 c57,Mm.ext w.heap.size noX M41 M55∧St w noX M55 [.row v14 118 7,.box b4 cx1 49] w'∧T' 1 = .int .i64 x2∧T' 2 = .pointer (some ⟨b4,0,none⟩)∧T' 5=v14∧T' 6 = .int .i64 y15∧T' 30 = .int .i64 y15∧T' 60 = .bool c57∧qhp x1 x2 l13 y15 rec16 c57=some r) ?_ ?_
 have hF69:=Qg w.heap.size noX M41
 refine Yu [.box b4 cx1 49] [] Ya hS fun w70 hS hG71 hR72=>wy 0 rfl (Qp Jm hT42_2) (fun _=>hR72) <|Y8 1 rfl (Qm (.bool x1.fixed) Jl rfl (Yp 0 rfl) (Kh (rr hcx1))) hR72 <|wy 2 rfl (Qe (.bool x1.fixed) rfl) (fun _=>hR72) ?_
 rcases ic hz with ⟨hc73,hz⟩ | ⟨hc73,hz⟩<;>rw [hc73]
 refine V4 3 rfl rfl rfl (Qe (.int .i64 y15) hT42_6) (fun _=>hR72) <|V4 4 rfl rfl rfl (Qp q03 hT42_2) (fun _=>hR72) ?_
 obtain ⟨u74,hx75,hz⟩:=Qb hz
 obtain ⟨hx75a,hx75b⟩:=Qw hx75
 refine V4 5 rfl rfl rfl (Ze Jr rfl rfl hx75a hx75b) (fun _=>hR72) ?_
 obtain ⟨x76,hx77,hz⟩:=Qb hz
 refine K6 6 rfl rfl rfl (Qm (.bool x76) Jl rfl (Yp 0 rfl) (vp (k:=1) rfl rfl (GCase.p4 (rr hcx1)) hx77)) hR72 <|V4 7 rfl rfl rfl (Ye rfl) (fun _=>hR72) <|V4 8 rfl rfl rfl (Qe (.bool (!x76)) rfl) (fun _=>hR72) ?_
 rcases ic hz with ⟨hc78,hz⟩ | ⟨hc78,hz⟩<;>rw [hc78]
 refine Yj 9 (j:=8) rfl rfl rfl rfl (fun _=>hR72) <|Yj 10 (j:=8) rfl rfl rfl rfl (fun _=>hR72) <|wsu 11 (j:=10) rfl rfl rfl (fun _=>hR72) <|wsu 12 (j:=10) rfl rfl rfl (fun _=>hR72) <|wsu 13 (j:=10) rfl rfl rfl (fun _=>hR72) <|wsu 14 (j:=10) rfl rfl rfl (fun _=>hR72) <|wsu 15 (j:=10) rfl rfl rfl (fun _=>hR72) <|Yj 16 (j:=8) rfl rfl rfl rfl (fun _=>hR72) <|V4 17 rfl rfl rfl (Zy (.bool true) rfl rfl) (fun _=>hR72) <|wy 18 rfl (Zy (.bool true) rfl rfl) (fun _=>hR72) <|wy 19 rfl (Qj (.bool true) rfl) (fun _=>hR72) ?_
 refine wd (Qa ?_)
 exact ⟨M41,true,hF69,hS,hT42_1,hT42_2,hT42_5,hT42_6,hT42_30,rfl,hz⟩
 refine V4 9 rfl rfl rfl (Qe (.bool r38) hT42_7) (fun _=>hR72) <|V4 10 rfl rfl rfl (Qe (.bool r38) rfl) (fun _=>hR72) ?_
 rcases ic hz with ⟨hc79,hz⟩ | ⟨hc79,hz⟩<;>rw [hc79]
 have ha80:=(rr hcx1)
 refine K6 11 rfl rfl rfl (Zf Vc hT42_2 (Yp 0 rfl) (Rep.len ha80)) hR72 <|V4 12 rfl rfl rfl (Qe (.int .i64 y15) hT42_6) (fun _=>hR72) ?_
 obtain ⟨r83,hr82,hz⟩:=Qb hz
 replace hr82:=Option.some.inj hr82
 refine w1g 13 rfl rfl rfl (Z6 (vs:=[.int .i64 y15]) (v := .int .i64 r83) q8v (Zu rfl) hS (hr82 ▸ (q82)) ?_)
 intro w81 hS
 refine Yq hS hG71 fun hR84 => ?_
 obtain ⟨r87,hr86,hz⟩:=Qb hz
 refine w1g 14 rfl rfl rfl (Z6 (vs:=[.agg (sl cx1 (0) 24).toArray,.int .i64 r83]) (v := .bool r87) cb58 (Z8 rfl rfl) hS (qxv hS.agree ha80 hr86) ?_)
 intro w85 hS
 refine Yq hS hG71 fun hR88=>V4 15 rfl rfl rfl (Ye rfl) (fun _=>hR88) <|V4 16 rfl rfl rfl (Zy (.bool (!r87)) rfl rfl) (fun _=>hR88) <|V4 17 rfl rfl rfl (Zi (.bool (!r87)) rfl rfl) (fun _=>hR88) <|wy 18 rfl (Zy (.bool (!r87)) rfl rfl) (fun _=>hR88) <|wy 19 rfl (Qj (.bool (!r87)) rfl) (fun _=>hR88) ?_
 refine wd (Qa ?_)
 exact ⟨M41,(!r87),hF69,hS,hT42_1,hT42_2,hT42_5,hT42_6,hT42_30,rfl,hz⟩
 refine Yj 11 (j:=10) rfl rfl rfl rfl (fun _=>hR72) <|Yj 12 (j:=10) rfl rfl rfl rfl (fun _=>hR72) <|Yj 13 (j:=10) rfl rfl rfl rfl (fun _=>hR72) <|Yj 14 (j:=10) rfl rfl rfl rfl (fun _=>hR72) <|Yj 15 (j:=10) rfl rfl rfl rfl (fun _=>hR72) <|V4 16 rfl rfl rfl (Zi (.bool false) rfl rfl) (fun _=>hR72) <|V4 17 rfl rfl rfl (Zi (.bool false) rfl rfl) (fun _=>hR72) <|wy 18 rfl (Zy (.bool false) rfl rfl) (fun _=>hR72) <|wy 19 rfl (Qj (.bool false) rfl) (fun _=>hR72) ?_
 refine wd (Qa ?_)
 exact ⟨M41,false,hF69,hS,hT42_1,hT42_2,hT42_5,hT42_6,hT42_30,rfl,hz⟩
 refine Yj 3 (j:=2) rfl rfl rfl rfl (fun _=>hR72) <|Yj 4 (j:=2) rfl rfl rfl rfl (fun _=>hR72) <|Yj 5 (j:=2) rfl rfl rfl rfl (fun _=>hR72) <|Yj 6 (j:=2) rfl rfl rfl rfl (fun _=>hR72) <|Yj 7 (j:=2) rfl rfl rfl rfl (fun _=>hR72) <|Yj 8 (j:=2) rfl rfl rfl rfl (fun _=>hR72) <|wsu 9 (j:=8) rfl rfl rfl (fun _=>hR72) <|wsu 10 (j:=8) rfl rfl rfl (fun _=>hR72) <|wsu 11 (j:=10) rfl rfl rfl (fun _=>hR72) <|wsu 12 (j:=10) rfl rfl rfl (fun _=>hR72) <|wsu 13 (j:=10) rfl rfl rfl (fun _=>hR72) <|wsu 14 (j:=10) rfl rfl rfl (fun _=>hR72) <|wsu 15 (j:=10) rfl rfl rfl (fun _=>hR72) <|wsu 16 (j:=8) rfl rfl rfl (fun _=>hR72) <|Yj 17 (j:=2) rfl rfl rfl rfl (fun _=>hR72) <|wy 18 rfl (Zi (.bool false) rfl rfl) (fun _=>hR72) <|wy 19 rfl (Qj (.bool false) rfl) (fun _=>hR72) ?_
 refine wd (Qa ?_)
 exact ⟨M41,false,hF69,hS,hT42_1,hT42_2,hT42_5,hT42_6,hT42_30,rfl,hz⟩
 rintro T56 w54 ⟨M55,c57,hx58,hS,hT56_1,hT56_2,hT56_5,hT56_6,hT56_30,hT56_60,hz⟩
 replace hcx1:=Rep.mono hx58.1 hcx1
 replace hv14:=Qz hx58.1 hv14
 replace hF27:=Qd hF27 hx58
 rw [qhp] at hz
 refine Qr hT56_60 (fun hc59 => ?_) (fun hc59 => ?_)
 replace hz:=Qn hz hc59
 refine Qi <|Qc (Qe (v14) hT56_5) <|Qc (Qe (.int .i64 y15) hT56_6) <|Qc (Qe (.int .i64 x2) hT56_1) <|Qc (Qp V3 hT56_2) ?_
 obtain ⟨v60,ev60,hv60⟩:=(Y9 (rr hcx1))
 refine Qc (Qm v60 Vp rfl (hS.bvB 1 rfl) ev60) <|Qc (Qp K4 hT56_2) ?_
 obtain ⟨v61,ev61,hv61⟩:=(V1 (rr hcx1))
 refine Qc (Qm v61 Z4 rfl (hS.bvB 1 rfl) ev61) ?_
 have k62_0:=Kr (Zr.zr:rep M55 (Zr.zc GFrame) (Zr.zd:GFrame)) (ri 3:rep M55 _ _)
 have k62_1:=Ks k62_0 (ri y15:rep M55 _ _)
 have k62_2:=Ku k62_1 (ri x2:rep M55 _ _)
 have k62_3:=GFrame.w3 k62_2 (Q1 hv60)
 have k62_4:=GFrame.w4 k62_3 (Q1 hv61)
 obtain ⟨d63,hd62,hz⟩:=Qb hz
 obtain ⟨cs62,hf62,ha62⟩ : ∃ cs,qbj (([(0,1),(1,1),(2,1),(3,1),(4,1),(5,1),(6,1)]:List (Nat × Nat))[·]?) (Zr.zc GFrame) [(0,.int .i64 3),(1,.int .i64 y15),(2,.int .i64 x2),(3,v60),(4,v61)]=some cs∧rep M55 cs d63:=⟨_,(Q9 (Zr.zr:rep M55 (Zr.zc GFrame) (Zr.zd:GFrame)) rfl rfl (Rep.len (ri 3:rep M55 _ _)) (by decide) (Q9 k62_0 rfl rfl (Rep.len (ri y15:rep M55 _ _)) (by decide) (Q9 k62_1 rfl rfl (Rep.len (ri x2:rep M55 _ _)) (by decide) (Q9 k62_2 rfl (Zc hv60) (Rep.len (Q1 hv60)) (by decide) (Q9 k62_3 rfl (Zc hv61) (Rep.len (Q1 hv61)) (by decide) Z2))))),Z3 (x:=({ kind:=3,node:=y15,id:=x2,ops:=x1.ops,deps:=x1.deps,at_:=Zr.zd,vals:=Zr.zd }:GFrame)) k62_4 hd62⟩
 refine Qc (Zt [(0,.int .i64 3),(1,.int .i64 y15),(2,.int .i64 x2),(3,v60),(4,v61)] qv5 (Ym rfl (Ym rfl (Ym rfl (Ym rfl (Ym rfl Vb))))) hf62) ?_
 refine Qs (Z0 (α := GFrame) (l:=([d63]:List GFrame)) [.agg cs62.toArray] q8s (Ym rfl Vb) rfl rfl (by decide) (by decide) (by decide) hS (K3 ha62 Jk) ?_)
 intro v65 M65 w64 hx65 hv65 hS
 replace hv14:=Qz hx65.1 hv14
 obtain ⟨l68,hr67,hz⟩:=Qb hz
 obtain ⟨hy67,hs67⟩:=Z1 hr67
 refine Qs (Y7 (α := GFrame) (j:=0) q8r hS rfl rfl rfl hv14 hv65 hy67 ?_)
 intro v67 M67 w66 hx67 hv67 hS
 rw [← hs67] at hv67
 clear hr67 hs67
 replace hF27:=Qd hF27 (hx65.trans hx67)
 refine Qc (Qj (v67) rfl) ?_
 refine Qf (Za ?_)
 refine (Za ?_)
 refine (Qa ?_)
 exact ⟨M67,v67,l68,hF27,hS,hv67,hT56_1,hT56_2,rfl,hT56_30,hz⟩
 replace hz:=Qo hz hc59
 refine Qt (Za ?_)
 refine (Za ?_)
 refine (Qa ?_)
 exact ⟨M55,v14,l13,hF27,hS,hv14,hT56_1,hT56_2,hT56_5,hT56_30,hz⟩
 rintro T23 w21 ⟨M22,v25,l24,hx26,hS,hv25,hT23_1,hT23_2,hT23_5,hT23_30,hz⟩
 replace hF18:=Qd hF18 hx26
 rw [qjl] at hz
 refine Qi <|Qc (Zz hT23_30 rfl) <|Qc (Qe (.int .i64 (IntKind.wrap .i64 (y15+1))) rfl) ?_
 refine Qf (Qa ?_)
 exact ⟨M22,v25,l24,(IntKind.wrap .i64 (y15+1)),hF18,hS,hv25,hT23_1,hT23_2,hT23_5,rfl,(by rw [← hrec16];exact hz)⟩
 replace hz:=Qo hz hc20
 refine Zq <|Qy <|Qy <|Zs ?_
 refine (Qa ?_)
 refine Qh <|Qi <|Qc (Qe (v14) hT12_5) <|Qc (Qj (v14) rfl) ?_
 refine Qf (Qa ?_)
 cases hz
 exact Q4 (Yg rfl rfl (Zk (Ql (Ql hS)) hE hv14))
def qgq (fu:Nat) (x1:GTxn) (d10:GCase):Option (GCase × (List GFrame) × Int) :=
 (some (qap x1.ops)).bind fun r15 =>
 (bif !r15 then
 (some ({ begun:=Zr.zd,fixed:=Zr.zd,ops:=Zr.zd,told:=Zr.zd,known:=Zr.zd,deps:=Zr.zd,has:=Zr.zd,values:=Zr.zd }:GCase)).bind fun d18 =>
 (some d18).bind fun d21 =>
 some (d21,[],1)
 else
 (qe6 fu x1.ops).bind fun r25 =>
 (some ({ begun:=true,fixed:=Zr.zd,ops:=r25,told:=Zr.zd,known:=Zr.zd,deps:=Zr.zd,has:=Zr.zd,values:=Zr.zd }:GCase)).bind fun d27 =>
 (some d27).bind fun d32 =>
 (qo0 fu d32 x1.id).bind fun r40 =>
 (some d32).bind fun d44 =>
 some (d44,r40,0))
def qe7 (fu:Nat) (x1:GTxn) (c50:Bool):Option (GCase × (List GFrame) × Int) :=
 (bif c50 then
 (some ({ begun:=Zr.zd,fixed:=Zr.zd,ops:=Zr.zd,told:=Zr.zd,known:=Zr.zd,deps:=Zr.zd,has:=Zr.zd,values:=Zr.zd }:GCase)).bind fun d54 =>
 (some d54).bind fun d57 =>
 some (d57,[],2)
 else
 qgq fu x1 (Zr.zd:GCase))
def qg1 (fu:Nat) (x1:GTxn):Option (GCase × (List GFrame) × Int) :=
 (bif decide (x1.id<0) then
 qe7 fu x1 true
 else
 qe7 fu x1 (decide (x1.id≥32)))
theorem qtu {M:Mm} {w:World} {cx1:List Value} {x1:GTxn} {fu:Nat} {r:GCase × (List GFrame) × Int} (hA:Agree M w) (hcx1:rep M cx1 x1) (hz:qg1 fu x1=some r) :
    Calls Try.prog 65 #[.agg cx1.toArray] w (Gives M w (fun M' u => ∃ c0 v1,u = .tuple #[.agg c0.toArray,v1,.int .i64 r.2.2]∧rep M' c0 r.1∧repL M' v1 r.2.1)):=by
 refine Zh Try.func65 rfl 29 rfl rfl (by kernel_rfl) fun T hT => ?_
 have hT_0:T 0 = .agg cx1.toArray:=hT 0
 clear hT
 have hE:=Qg w.heap.size noX M
 have hS:St w noX M [] w:=Zx hA
 rw [qg1] at hz
 refine Qh <|Qi ?_
 refine Qs (Yo (v := .agg cx1.toArray) (cs:=cx1) hT_0 rfl hS ?_)
 intro b3 w2 hb3 hS
 refine Qs (Zg q32 hS ?_)
 intro b5 w4 hb5 hS
 have zb5:rep M (Zr.zc GCase) (Zr.zd:GCase):=Zr.zr
 refine Q2 2 rfl ?_
 refine Qf (Qa ?_)
 refine Q0 (fun T' w' => ∃ M7 cs9 d10,Mm.ext w.heap.size noX M M7∧St w noX M7 [.box b5 cs9 49,.box b3 cx1 115] w'∧rep M7 cs9 d10∧T' 1 = .pointer (some ⟨b3,0,none⟩)∧T' 2 = .pointer (some ⟨b5,0,none⟩)∧qgq fu x1 d10=some r) ?_ ?_
 have hF46:=Qg w.heap.size noX M
 refine Q0 (fun T' w' => ∃ M48 c50,Mm.ext w.heap.size noX M M48∧St w noX M48 [.box b5 (Zr.zc GCase) 49,.box b3 cx1 115] w'∧T' 1 = .pointer (some ⟨b3,0,none⟩)∧T' 2 = .pointer (some ⟨b5,0,none⟩)∧T' 13 = .bool c50∧qe7 fu x1 c50=some r) ?_ ?_
 have hF58:=Qg w.heap.size noX M
 refine Qi <|Qc (Qp qv4 rfl) <|Qc (Qm (.int .i64 x1.id) Yb rfl (hS.bvB 1 rfl) (GTxn.p0 (rr hcx1))) <|Qc (Zv rfl rfl) <|Qc (Qe (.bool (decide (x1.id<0))) rfl) ?_
 rcases ic hz with ⟨hc59,hz⟩ | ⟨hc59,hz⟩<;>rw [hc59]
 refine Q2 4 rfl ?_
 refine Qf (Qa ?_)
 exact ⟨M,true,hF58,hS,rfl,rfl,rfl,hz⟩
 refine Qk rfl rfl (Qp qv4 rfl) <|Qk rfl rfl (Qm (.int .i64 x1.id) Yb rfl (hS.bvB 1 rfl) (GTxn.p0 (rr hcx1))) <|Qk rfl rfl (Vd rfl rfl) <|Qc (Zi (.bool (decide (x1.id≥32))) rfl rfl) ?_
 refine Qf (Qa ?_)
 exact ⟨M,(decide (x1.id≥32)),hF58,hS,rfl,rfl,rfl,hz⟩
 rintro T49 w47 ⟨M48,c50,hx51,hS,hT49_1,hT49_2,hT49_13,hz⟩
 replace zb5:=Rep.mono hx51.1 zb5
 replace hE:=Qd hE hx51
 replace hF46:=Qd hF46 hx51
 rw [qe7] at hz
 refine Qr hT49_13 (fun hc52 => ?_) (fun hc52 => ?_)
 replace hz:=Qn hz hc52
 refine Qh <|Qi ?_
 obtain ⟨d54,hd53,hz⟩:=Qb hz
 obtain ⟨cs53,hf53,ha53⟩ : ∃ cs,qbj (([(0,1),(1,1),(2,1),(3,6),(9,6),(15,1),(16,4),(20,4)]:List (Nat × Nat))[·]?) (Zr.zc GCase) []=some cs∧rep M48 cs d54:=⟨_,Z2,Z3 (x:=({ begun:=Zr.zd,fixed:=Zr.zd,ops:=Zr.zd,told:=Zr.zd,known:=Zr.zd,deps:=Zr.zd,has:=Zr.zd,values:=Zr.zd }:GCase)) (Zr.zr:rep M48 (Zr.zc GCase) (Zr.zd:GCase)) hd53⟩
 refine Qc (Zt [] q9h Vb hf53) ?_
 obtain ⟨d57,hd56,hz⟩:=Qb hz
 refine Qs (Q8 0 24 hS rfl zb5 hT49_2 rfl ha53 rfl rfl (Lf (rr zb5) ha53) hd56 ?_)
 intro cs56 w55 hb56 ha56 hs56 hS
 refine Q2 2 rfl ?_
 refine Qf (Qa ?_)
 cases hz
 exact Q4 (Qq (V7 (j:=0) rfl hT49_2 rfl rfl (by rw [Rep.len hb56];exact Vc) hS rfl (Zk (Ql (Ql hS)) hE ⟨_,_,rfl,hb56,(Z5 _)⟩)))
 replace hz:=Qo hz hc52
 refine Qt (Qa ?_)
 exact ⟨M48,(Zr.zc GCase),(Zr.zd:GCase),hF46,hS,zb5,hT49_1,hT49_2,hz⟩
 rintro T8 w6 ⟨M7,cs9,d10,hx11,hS,hb9,hT8_1,hT8_2,hz⟩
 replace hcx1:=Rep.mono hx11.1 hcx1
 replace hE:=Qd hE hx11
 rw [qgq] at hz
 refine Qh <|Qh <|Qi <|Qc (Qp q08 hT8_1) ?_
 obtain ⟨v12,ev12,hv12⟩:=(GTxn.p1 (rr hcx1))
 refine Qc (Qm v12 Vp rfl (hS.bvB 1 rfl) ev12) ?_
 obtain ⟨r15,hr14,hz⟩:=Qb hz
 replace hr14:=Option.some.inj hr14
 refine Qs (Z6 (vs:=[v12]) (v := .bool r15) q9o (Zu rfl) hS (hr14 ▸ (qla hS.agree hv12)) ?_)
 intro w13 hS
 refine Qc (Ye rfl) ?_
 refine Qf (Qa ?_)
 refine Qr rfl (fun hc16 => ?_) (fun hc16 => ?_)
 replace hz:=Qn hz hc16
 refine Qh <|Qi ?_
 obtain ⟨d18,hd17,hz⟩:=Qb hz
 obtain ⟨cs17,hf17,ha17⟩ : ∃ cs,qbj (([(0,1),(1,1),(2,1),(3,6),(9,6),(15,1),(16,4),(20,4)]:List (Nat × Nat))[·]?) (Zr.zc GCase) []=some cs∧rep M7 cs d18:=⟨_,Z2,Z3 (x:=({ begun:=Zr.zd,fixed:=Zr.zd,ops:=Zr.zd,told:=Zr.zd,known:=Zr.zd,deps:=Zr.zd,has:=Zr.zd,values:=Zr.zd }:GCase)) (Zr.zr:rep M7 (Zr.zc GCase) (Zr.zd:GCase)) hd17⟩
 refine Qc (Zt [] q9h Vb hf17) ?_
 obtain ⟨d21,hd20,hz⟩:=Qb hz
 refine Qs (Q8 0 24 hS rfl hb9 hT8_2 rfl ha17 rfl rfl (Lf (rr hb9) ha17) hd20 ?_)
 intro cs20 w19 hb20 ha20 hs20 hS
 refine Q2 2 rfl ?_
 refine Qf (Qa ?_)
 cases hz
 exact Q4 (Qq (V7 (j:=0) rfl hT8_2 rfl rfl (by rw [Rep.len hb20];exact Vc) hS rfl (Zk (Ql (Ql hS)) hE ⟨_,_,rfl,hb20,(Z5 _)⟩)))
 replace hz:=Qo hz hc16
 refine Qt (Qa ?_)
 refine Qh <|Qi <|Qc (Qp q08 hT8_1) ?_
 obtain ⟨v22,ev22,hv22⟩:=(GTxn.p1 (rr hcx1))
 refine Qc (Qm v22 Vp rfl (hS.bvB 1 rfl) ev22) ?_
 obtain ⟨r25,hr24,hz⟩:=Qb hz
 refine Qs (Y0 (vs:=[v22]) (rv:=(fun M' u=>repL M' u r25)) za9 (Zu rfl) hS (qkr hS.agree hv22 hr24) ?_)
 intro u24 M24 w23 hx24 hu24 hS
 have f24:repL M24 u24 r25:=hu24
 replace hcx1:=Rep.mono hx24.1 hcx1
 have k26_0:=GCase.w0 (Zr.zr:rep M24 (Zr.zc GCase) (Zr.zd:GCase)) (rb true:rep M24 _ _)
 have k26_1:=GCase.w2 k26_0 (Q1 f24)
 obtain ⟨d27,hd26,hz⟩:=Qb hz
 obtain ⟨cs26,hf26,ha26⟩ : ∃ cs,qbj (([(0,1),(1,1),(2,1),(3,6),(9,6),(15,1),(16,4),(20,4)]:List (Nat × Nat))[·]?) (Zr.zc GCase) [(0,.bool true),(2,u24)]=some cs∧rep M24 cs d27:=⟨_,(Q9 (Zr.zr:rep M24 (Zr.zc GCase) (Zr.zd:GCase)) rfl rfl (Rep.len (rb true:rep M24 _ _)) (by decide) (Q9 k26_0 rfl (Zc f24) (Rep.len (Q1 f24)) (by decide) Z2)),Z3 (x:=({ begun:=true,fixed:=Zr.zd,ops:=r25,told:=Zr.zd,known:=Zr.zd,deps:=Zr.zd,has:=Zr.zd,values:=Zr.zd }:GCase)) k26_1 hd26⟩
 refine Qc (Zt [(0,.bool true),(2,u24)] q9h (Ym rfl (Ym rfl Vb)) hf26) ?_
 refine Qs (Zg q32 hS ?_)
 intro b29 w28 hb29 hS
 have zb29:rep M24 (Zr.zc GCase) (Zr.zd:GCase):=Zr.zr
 obtain ⟨d32,hd31,hz⟩:=Qb hz
 refine Qs (Q8 0 24 hS rfl zb29 rfl rfl ha26 rfl rfl (Lf (rr zb29) ha26) hd31 ?_)
 intro cs31 w30 hb31 ha31 hs31 hS
 refine Qf (Qa ?_)
 refine Qh <|Yu [.box b29 cs31 49,.box b3 cx1 115] [] Ya hS fun w33 hS hG34 hR35 => ?_
 have ha36:=(rr hb31)
 refine Y8 0 rfl (Zf Vc rfl (Yp 0 rfl) (Rep.len ha36)) hR35 ?_
 have ha37:=(rr hb31)
 refine Y8 1 rfl (Zf Vc rfl (Yp 0 rfl) (Rep.len ha37)) hR35 <|wy 2 rfl (Qp qv4 hT8_1) (fun _=>hR35) <|Y8 3 rfl (Qm (.int .i64 x1.id) Yb rfl (Yp 1 rfl) (GTxn.p0 (rr hcx1))) hR35 ?_
 obtain ⟨r40,hr39,hz⟩:=Qb hz
 refine w1 4 rfl (Y0 (vs:=[.agg (sl cs31 (0) 24).toArray,.int .i64 x1.id]) (rv:=(fun M' u=>repL M' u r40)) za8 (Z8 rfl rfl) hS (qr6 hS.agree ha37 hr39) ?_)
 intro u39 M39 w38 hx39 hu39 hS
 have f39:repL M39 u39 r40:=hu39
 replace hb9:=Rep.mono (hx24.1.trans hx39.1) hb9
 replace ha36:=Rep.mono hx39.1 ha36
 replace hE:=Qd hE (hx24.trans hx39)
 replace hG34:=Qd hG34 hx39
 refine Yq hS hG34 fun hR41 => ?_
 obtain ⟨d44,hd43,hz⟩:=Qb hz
 refine w1 5 rfl (Q8 1 24 hS rfl hb9 hT8_2 rfl ha36 rfl rfl (Lf (rr hb9) ha36) hd43 ?_)
 intro cs43 w42 hb43 ha43 hs43 hS
 refine Yq hS hG34 fun hR45=>wy 6 rfl (Qj (u39) rfl) (fun _=>hR45) <|wy 7 rfl (Qj (.int .i64 0) rfl) (fun _=>hR45) ?_
 refine wd (Qa ?_)
 cases hz
 exact Q4 (V7 (j:=1) rfl hT8_2 rfl rfl (by rw [Rep.len hb43];exact Vc) hS rfl (Zk (Ql (Ql (Ql hS))) hE ⟨_,_,rfl,hb43,f39⟩))
def qb0 (fu:Nat) (x1:GCase):Nat→Int→Option ((List Int) × Bool)
 | 0,_=>none
 | n+1,y11 =>
 (bif decide (y11<2) then
 (qtt fu x1 y11).bind fun r20 =>
 (bif !r20 then
 some ([],false)
 else
 (qb0 fu x1 n) (IntKind.wrap .i64 (y11+1)))
 else
 (qqs x1.values.toList none (some (x1.ops.length:Int))).bind fun l25 =>
 (qb7 fu l25).bind fun r28 =>
 some (r28,true))
def qfj (fu:Nat) (x1:GCase):Option ((List Int) × Bool) :=
 qb0 fu x1 fu 0
def qd7 (fu:Nat) (x1:GCase) (c34:Bool):Option ((List Int) × Bool) :=
 (bif c34 then
 some ([],false)
 else
 qfj fu x1)
def qel (fu:Nat) (x1:GCase):Option ((List Int) × Bool) :=
 (bif !x1.begun then
 qd7 fu x1 true
 else
 (qf5 fu x1).bind fun r42 =>
 qd7 fu x1 (!r42))
theorem qld {M:Mm} {w:World} {cx1:List Value} {x1:GCase} {fu:Nat} {r:(List Int) × Bool} (hA:Agree M w) (hcx1:rep M cx1 x1) (hz:qel fu x1=some r) :
    Calls Try.prog 28 #[.agg cx1.toArray] w (Gives M w (fun M' u => ∃ v0,u = .tuple #[v0,.bool r.2]∧repL M' v0 r.1)):=by
 refine Zh Try.func28 rfl 27 rfl rfl (by kernel_rfl) fun T hT => ?_
 have hT_0:T 0 = .agg cx1.toArray:=hT 0
 clear hT
 have hE:=Qg w.heap.size noX M
 have hS:St w noX M [] w:=Zx hA
 rw [qel] at hz
 refine Qh <|Qi ?_
 refine Qs (Yo (v := .agg cx1.toArray) (cs:=cx1) hT_0 rfl hS ?_)
 intro b3 w2 hb3 hS
 refine Q2 2 rfl ?_
 refine Qf (Qa ?_)
 refine Q0 (fun T' w' => ∃ M5,Mm.ext w.heap.size noX M M5∧St w noX M5 [.box b3 cx1 49] w'∧T' 1 = .pointer (some ⟨b3,0,none⟩)∧qfj fu x1=some r) ?_ ?_
 have hF30:=Qg w.heap.size noX M
 refine Q0 (fun T' w' => ∃ M32 c34,Mm.ext w.heap.size noX M M32∧St w noX M32 [.box b3 cx1 49] w'∧T' 1 = .pointer (some ⟨b3,0,none⟩)∧T' 12 = .bool c34∧qd7 fu x1 c34=some r) ?_ ?_
 have hF37:=Qg w.heap.size noX M
 refine Qi <|Qc (Qp qxp rfl) <|Qc (Qm (.bool x1.begun) Jl rfl (hS.bvB 0 rfl) (GCase.p0 (rr hcx1))) <|Qc (Ye rfl) <|Qc (Qe (.bool (!x1.begun)) rfl) ?_
 rcases ic hz with ⟨hc38,hz⟩ | ⟨hc38,hz⟩<;>rw [hc38]
 refine Q2 4 rfl ?_
 refine Qf (Qa ?_)
 exact ⟨M,true,hF37,hS,rfl,rfl,hz⟩
 have ha39:=(rr hcx1)
 refine Qk rfl rfl (Zf Vc rfl (hS.bvB 0 rfl) (Rep.len ha39)) ?_
 obtain ⟨r42,hr41,hz⟩:=Qb hz
 refine Kf rfl rfl (Z6 (vs:=[.agg (sl cx1 (0) 24).toArray]) (v := .bool r42) za6 (Zu rfl) hS (qks hS.agree ha39 hr41) ?_)
 intro w40 hS
 refine Qk rfl rfl (Ye rfl) <|Qc (Zi (.bool (!r42)) rfl rfl) ?_
 refine Qf (Qa ?_)
 exact ⟨M,(!r42),hF37,hS,rfl,rfl,hz⟩
 rintro T33 w31 ⟨M32,c34,hx35,hS,hT33_1,hT33_12,hz⟩
 replace hE:=Qd hE hx35
 replace hF30:=Qd hF30 hx35
 rw [qd7] at hz
 refine Qr hT33_12 (fun hc36 => ?_) (fun hc36 => ?_)
 replace hz:=Qn hz hc36
 refine Qh <|Qi <|Q2 2 rfl ?_
 refine Qf (Qa ?_)
 cases hz
 exact Q4 (Qq (qz9 rfl rfl rfl (Zk (Ql hS) hE ⟨_,rfl,(Z5 _)⟩)))
 replace hz:=Qo hz hc36
 refine Qt (Qa ?_)
 exact ⟨M32,hF30,hS,hT33_1,hz⟩
 rintro T6 w4 ⟨M5,hx7,hS,hT6_1,hz⟩
 replace hcx1:=Rep.mono hx7.1 hcx1
 replace hE:=Qd hE hx7
 rw [qfj] at hz
 refine Qh <|Qh <|Qi <|Qc (Qe (.int .i64 0) rfl) ?_
 refine Qf (Qa ?_)
 refine Qv ?_
 refine Zw (fun k13 T' w' => ∃ M9 y11,Mm.ext w.heap.size noX M5 M9∧St w noX M9 [.box b3 cx1 49] w'∧T' 1 = .pointer (some ⟨b3,0,none⟩)∧T' 13 = .int .i64 y11∧qb0 fu x1 k13 y11=some r) fu ?_ ?_ ?_
 exact ⟨M5,(0:Int),(Qg _ _ _),hS,hT6_1,rfl,hz⟩
 rintro T' w' ⟨_,_,_,_,_,_,hz⟩
 rw [qb0] at hz
 cases hz
 intro k13
 rintro T10 w8 ⟨M9,y11,hx15,hS,hT10_1,hT10_13,hz⟩
 replace hcx1:=Rep.mono hx15.1 hcx1
 replace hE:=Qd hE hx15
 have hF14:=hx15
 rw [qb0] at hz
 obtain ⟨rec12,hrec12⟩ : ∃ f,f=qb0 fu x1 k13:=⟨_,rfl⟩
 rw [← hrec12] at hz
 refine Qh <|Qi <|Qc (Zv hT10_13 rfl) ?_
 refine Qf (Qa ?_)
 refine Qh ?_
 refine Qr rfl (fun hc16 => ?_) (fun hc16 => ?_)
 replace hz:=Qn hz hc16
 refine Qt (Qa ?_)
 refine Qh <|Qv <|Qh <|Qi <|Qc (Qe (.int .i64 y11) hT10_13) <|Qc (Qj (.int .i64 y11) rfl) ?_
 refine Qf (Qa ?_)
 refine Qh <|Qi ?_
 have ha17:=(rr hcx1)
 refine Qc (Zf Vc hT10_1 (hS.bvB 0 rfl) (Rep.len ha17)) <|Qc (Qe (.int .i64 y11) rfl) ?_
 obtain ⟨r20,hr19,hz⟩:=Qb hz
 refine Qs (Z6 (vs:=[.agg (sl cx1 (0) 24).toArray,.int .i64 y11]) (v := .bool r20) cb58 (Z8 rfl rfl) hS (qxv hS.agree ha17 hr19) ?_)
 intro w18 hS
 refine Qc (Ye rfl) ?_
 refine Qf (Qa ?_)
 refine Qr rfl (fun hc21 => ?_) (fun hc21 => ?_)
 replace hz:=Qn hz hc21
 refine Qh <|Qi <|Q2 2 rfl ?_
 refine Qf (Qa ?_)
 cases hz
 exact Q4 (Zb (Qq (Qq (Zb (Qq (qz9 rfl rfl rfl (Zk (Ql hS) hE ⟨_,rfl,(Z5 _)⟩)))))))
 replace hz:=Qo hz hc21
 refine Qt (Za ?_)
 refine (Qa ?_)
 refine Qi <|Qc (Zz hT10_13 rfl) <|Qc (Qe (.int .i64 (IntKind.wrap .i64 (y11+1))) rfl) ?_
 refine Qf (Qa ?_)
 exact ⟨M9,(IntKind.wrap .i64 (y11+1)),hF14,hS,hT10_1,rfl,(by rw [← hrec12];exact hz)⟩
 replace hz:=Qo hz hc16
 refine Zq <|Qy <|Qy <|Zs ?_
 refine (Qa ?_)
 refine Qh <|Qi <|Qc (Qp q04 hT10_1) <|Qc (Qp V3 hT10_1) ?_
 obtain ⟨v22,ev22,hv22⟩:=(Y9 (rr hcx1))
 refine Qc (Qm v22 Vp rfl (hS.bvB 0 rfl) ev22) ?_
 obtain ⟨a23,c23,hv23,_⟩:=Q3 hv22
 refine Qc (Zj Z7 (Vv hv23 rfl)) ?_
 have ha24:=(GCase.p7 (rr hcx1))
 have hn24:(cx1).length=24:=Rep.len hcx1
 obtain ⟨M24,hM24,hx24,hS⟩:=St.freeze 0 hS rfl
 replace ha24:=Rep.mono hx24.1 ha24
 replace hE:=Qd hE hx24
 have hs24:repL M24 (.slice (some ⟨b3,0+20,none⟩) 4 4) x1.values.toList:=q30 hM24 (show _+4*1≤_ by omega) ha24 (by decide)
 obtain ⟨l25,hx24,hz⟩:=Qb hz
 obtain ⟨⟨pp24,qq24⟩,hc24,hx24⟩:=Option.map_eq_some_iff.1 hx24
 have h24l:repL _ (qj2 (.slice (some ⟨b3,0+20,none⟩) 4 4) 1 pp24 qq24) l25:=hx24 ▸ qxh hs24 hc24
 rw [show x1.values.toList.length=4 from by simp] at hc24
 refine Qc (q72 (l:=none) (h:=(some (x1.ops.length:Int))) zaw rfl evn (evs rfl) hc24) ?_
 obtain ⟨r28,hr27,hz⟩:=Qb hz
 refine Qs (Zl (vs:=[(qj2 (.slice (some ⟨b3,0+20,none⟩) 4 4) 1 pp24 qq24)]) (L:=[]) (R:=[]) (rv:=(fun M' u L' => ∃ v0,u=v0∧L'=[.row v0 3 1]∧repL M' v0 r28)) q5b (Zu rfl) hS (hS.sel [] (by decide) rfl) (fun hS=>qm6 hS.agree h24l hr27) ?_)
 rintro u27 M27 w26 L27 hx27 ⟨v0_27,rfl,hL27,f27_0⟩ hS
 replace hS:=hS _ hL27
 replace hE:=Qd hE hx27
 refine Q2 2 rfl ?_
 refine Qf (Qa ?_)
 cases hz
 exact Q4 (qz9 rfl rfl rfl (Zk (Ql hS) hE ⟨_,rfl,f27_0⟩))
end Go.Proofs.Yteilffoclpgijaa
namespace Go.Proofs.Yteilffoclpgijaa
set_option maxHeartbeats 4000000
set_option maxRecDepth 100000
open Go.RowKit
open Rep (rep)
set_option linter.unusedVariables false
abbrev Jq := @R_c
abbrev Jn := @ia58
abbrev Vj := @q1e
abbrev Jb := @GGraph.p1
abbrev Zn := @skr.mono
abbrev Q6 := @zaa
abbrev Jc := @q56
abbrev K2 := @ia56
abbrev Jd := @q57
abbrev Zo := @qs3
abbrev Vr := @GSearch.p1
abbrev Y5 := @GSearch.p2
abbrev Kw := @q58
abbrev Ki := @q35
abbrev Kx := @GSearch.p3
abbrev Yv := @WQ_y
abbrev Kj := @GSearch.p5
abbrev Yw := @qv8
abbrev Jj := @zaj
def qle (y68:Int) (rec69:(Vector Bool 32)→(List Int)→Int→Option (Vector Bool 32)) (d78:Vector Bool 32) (l81:List Int):Option (Vector Bool 32) :=
 rec69 d78 l81 (IntKind.wrap .i64 (y68+1))
def qjn (d63:Vector Bool 32) (l66:List Int) (y68:Int) (rec69:(Vector Bool 32)→(List Int)→Int→Option (Vector Bool 32)) (x86:Int) (c90:Bool):Option (Vector Bool 32) :=
 (bif c90 then
 (inR x86 32).bind fun _ =>
 (qa7 d63 x86).bind fun x97 =>
 (qe2 d63 x86 true).bind fun a99 =>
 (some a99).bind fun d101 =>
 (app l66 ([x86]:List Int)).bind fun l106 =>
 qle y68 rec69 d101 l106
 else
 qle y68 rec69 d63 l66)
def qdq (rec36:(Vector Bool 32)→(List Int)→Option (Vector Bool 32)) (x55:List Int):Nat→(Vector Bool 32)→(List Int)→Int→Option (Vector Bool 32)
 | 0,_,_,_=>none
 | n+1,d63,l66,y68 =>
 (bif decide (y68<(x55.length:Int)) then
 (idx x55 y68).bind fun x86 =>
 (bif decide (x86≥0) then
 (bif decide (x86<32) then
 (inR x86 32).bind fun _ =>
 (qa7 d63 x86).bind fun x112 =>
 qjn d63 l66 y68 (qdq rec36 x55 n) x86 (!x112)
 else
 qjn d63 l66 y68 (qdq rec36 x55 n) x86 false)
 else
 qjn d63 l66 y68 (qdq rec36 x55 n) x86 false)
 else
 rec36 d63 l66)
def qdr (fu:Nat) (x1:GGraph):Nat→(Vector Bool 32)→(List Int)→Option (Vector Bool 32)
 | 0,_,_=>none
 | n+1,d31,l34 =>
 (bif decide ((l34.length:Int)>0) then
 (idx l34 (IntKind.wrap .i64 ((l34.length:Int)-1))).bind fun x44 =>
 (qqs l34 none (some (IntKind.wrap .i64 ((l34.length:Int)-1)))).bind fun l47 =>
 (inR x44 32).bind fun _ =>
 (qa7 x1.known x44).bind fun x50 =>
 (bif !x50 then
 (qdr fu x1 n) d31 l47
 else
 (inR x44 32).bind fun _ =>
 (qa7 x1.deps x44).bind fun x55 =>
 qdq (qdr fu x1 n) x55 fu d31 l47 0)
 else
 (some d31).bind fun d117 =>
 some d117)
def qn3 (fu:Nat) (x1:GGraph) (x2:Int) (d13:Vector Bool 32):Option (Vector Bool 32) :=
 (inR x2 32).bind fun _ =>
 (qa7 (Zr.zd:Vector Bool 32) x2).bind fun x19 =>
 (qe2 (Zr.zd:Vector Bool 32) x2 true).bind fun a21 =>
 (some a21).bind fun d23 =>
 qdr fu x1 fu d23 ([x2]:List Int)
def qjo (fu:Nat) (x1:GGraph) (x2:Int) (c122:Bool):Option (Vector Bool 32) :=
 (bif c122 then
 (some (Zr.zd:Vector Bool 32)).bind fun d128 =>
 some d128
 else
 qn3 fu x1 x2 (Zr.zd:Vector Bool 32))
def qtv (fu:Nat) (x1:GGraph) (x2:Int):Option (Vector Bool 32) :=
 (bif decide (x2<0) then
 qjo fu x1 x2 true
 else
 qjo fu x1 x2 (decide (x2≥32)))
theorem q4b {M:Mm} {w:World} {cx1:List Value} {x1:GGraph} {x2:Int} {fu:Nat} {r:(Vector Bool 32)} (hA:Agree M w) (hcx1:rep M cx1 x1) (hz:qtv fu x1 x2=some r) :
    Calls Try.prog 76 #[.agg cx1.toArray,.int .i64 x2] w (Gives M w (fun M' u => ∃ cs,u = .agg cs.toArray∧rep M' cs r)):=by
 refine Zh Try.func76 rfl 69 rfl rfl (by kernel_rfl) fun T hT => ?_
 have hT_0:T 0 = .agg cx1.toArray:=hT 0
 have hT_1:T 1 = .int .i64 x2:=hT 1
 clear hT
 have hE:=Qg w.heap.size noX M
 have hS:St w noX M [] w:=Zx hA
 rw [qtv] at hz
 refine Qh <|Qi ?_
 refine Qs (Yo (v := .agg cx1.toArray) (cs:=cx1) hT_0 rfl hS ?_)
 intro b4 w3 hb4 hS
 refine Qs (Zg q8m hS ?_)
 intro b6 w5 hb6 hS
 have zb6:rep M (Zr.zc (Vector Bool 32)) (Zr.zd:Vector Bool 32):=Zr.zr
 refine Qf (Qa ?_)
 refine Qh <|Qi ?_
 refine Qs (Zg q8m hS ?_)
 intro b8 w7 hb8 hS
 have zb8:rep M (Zr.zc (Vector Bool 32)) (Zr.zd:Vector Bool 32):=Zr.zr
 refine Qf (Qa ?_)
 refine Q0 (fun T' w' => ∃ M10 cs12 d13,Mm.ext w.heap.size noX M M10∧St w noX M10 [.box b8 (Zr.zc (Vector Bool 32)) 58,.box b6 cs12 58,.box b4 cx1 61] w'∧rep M10 cs12 d13∧T' 1 = .int .i64 x2∧T' 2 = .pointer (some ⟨b4,0,none⟩)∧T' 4 = .pointer (some ⟨b6,0,none⟩)∧T' 5 = .pointer (some ⟨b8,0,none⟩)∧qn3 fu x1 x2 d13=some r) ?_ ?_
 have hF118:=Qg w.heap.size noX M
 refine Q0 (fun T' w' => ∃ M120 c122,Mm.ext w.heap.size noX M M120∧St w noX M120 [.box b8 (Zr.zc (Vector Bool 32)) 58,.box b6 (Zr.zc (Vector Bool 32)) 58,.box b4 cx1 61] w'∧T' 1 = .int .i64 x2∧T' 2 = .pointer (some ⟨b4,0,none⟩)∧T' 4 = .pointer (some ⟨b6,0,none⟩)∧T' 5 = .pointer (some ⟨b8,0,none⟩)∧T' 15 = .bool c122∧qjo fu x1 x2 c122=some r) ?_ ?_
 have hF129:=Qg w.heap.size noX M
 refine Qi <|Qc (Qe (.int .i64 x2) hT_1) <|Qc (Zv rfl rfl) <|Qc (Qe (.bool (decide (x2<0))) rfl) ?_
 rcases ic hz with ⟨hc130,hz⟩ | ⟨hc130,hz⟩<;>rw [hc130]
 refine Q2 3 rfl ?_
 refine Qf (Qa ?_)
 exact ⟨M,true,hF129,hS,hT_1,rfl,rfl,rfl,rfl,hz⟩
 refine Qk rfl rfl (Qe (.int .i64 x2) hT_1) <|Qk rfl rfl (Vd rfl rfl) <|Qc (Zi (.bool (decide (x2≥32))) rfl rfl) ?_
 refine Qf (Qa ?_)
 exact ⟨M,(decide (x2≥32)),hF129,hS,hT_1,rfl,rfl,rfl,rfl,hz⟩
 rintro T121 w119 ⟨M120,c122,hx123,hS,hT121_1,hT121_2,hT121_4,hT121_5,hT121_15,hz⟩
 replace zb6:=Rep.mono hx123.1 zb6
 replace zb8:=Rep.mono hx123.1 zb8
 replace hE:=Qd hE hx123
 replace hF118:=Qd hF118 hx123
 rw [qjo] at hz
 refine Qr hT121_15 (fun hc124 => ?_) (fun hc124 => ?_)
 replace hz:=Qn hz hc124
 refine Qh <|Qi ?_
 have ha125:=(rr zb8)
 refine Qc (Zf q8l hT121_5 (hS.bvB 0 rfl) (Rep.len ha125)) ?_
 obtain ⟨d128,hd127,hz⟩:=Qb hz
 refine Qs (Q8 1 32 hS rfl zb6 hT121_4 rfl ha125 rfl rfl (Lf (rr zb6) ha125) hd127 ?_)
 intro cs127 w126 hb127 ha127 hs127 hS
 refine Qf (Qa ?_)
 cases hz
 exact Q4 (Qq (Jq (j:=1) rfl hT121_4 (by rw [Rep.len hb127];exact q8l) hS rfl (Zk (Ql (Ql (Ql hS))) hE ⟨_,rfl,hb127⟩)))
 replace hz:=Qo hz hc124
 refine Qt (Qa ?_)
 exact ⟨M120,(Zr.zc (Vector Bool 32)),(Zr.zd:Vector Bool 32),hF118,hS,zb6,hT121_1,hT121_2,hT121_4,hT121_5,hz⟩
 rintro T11 w9 ⟨M10,cs12,d13,hx14,hS,hb12,hT11_1,hT11_2,hT11_4,hT11_5,hz⟩
 replace hcx1:=Rep.mono hx14.1 hcx1
 replace zb8:=Rep.mono hx14.1 zb8
 replace hE:=Qd hE hx14
 rw [qn3] at hz
 refine Qh <|Qi <|Qc (Qe (.int .i64 x2) hT11_1) ?_
 obtain ⟨u15,hx16,hz⟩:=Qb hz
 obtain ⟨hx16a,hx16b⟩:=Qw hx16
 refine Qc (Ze Jn hT11_5 rfl hx16a hx16b) ?_
 obtain ⟨x19,hx20,hz⟩:=Qb hz
 obtain ⟨a21,hx22,hz⟩:=Qb hz
 obtain ⟨d23,hd18,hz⟩:=Qb hz
 refine Qs (Q8 0 1 hS rfl zb8 rfl rfl (rb true:rep M10 _ _) rfl rfl (vu (k:=1) rfl rfl (rr zb8) (Lf (vp (k:=1) rfl rfl (rr zb8) hx20) (rb true:rep M10 _ _)) hx22) hd18 ?_)
 intro cs18 w17 hb18 ha18 hs18 hS
 refine Qf (Qa ?_)
 refine Qh <|Qi <|Qc (Qe (.int .i64 x2) hT11_1) ?_
 refine Qs (q1h (α := Int) (l:=([x2]:List Int)) [.int .i64 x2] Ji (Ym rfl Vb) rfl rfl (by decide) (by decide) (by decide) hS (K3 (ri x2:rep M10 _ _) Jk) ?_)
 intro v25 xs25 w24 hk25 hS
 refine Qc (Qj (v25) rfl) ?_
 refine Qf (Qa ?_)
 refine Qh <|Qv ?_
 refine Zw (fun k37 T' w' => ∃ M28 cs30 d31 v32 xs33 l34,Mm.ext w.heap.size noX M10 M28∧St w noX M28 [.stk v32 3 1 xs33,.box b8 cs30 58,.box b6 cs12 58,.box b4 cx1 61] w'∧rep M28 cs30 d31∧skr M28 v32 xs33 l34∧T' 2 = .pointer (some ⟨b4,0,none⟩)∧T' 4 = .pointer (some ⟨b6,0,none⟩)∧T' 5 = .pointer (some ⟨b8,0,none⟩)∧T' 6=v32∧qdr fu x1 k37 d31 l34=some r) fu ?_ ?_ ?_
 exact ⟨M10,cs18,d23,v25,xs25,([x2]:List Int),(Qg _ _ _),hS,hb18,hk25,hT11_2,hT11_4,hT11_5,rfl,hz⟩
 rintro T' w' ⟨_,_,_,_,_,_,_,_,_,_,_,_,_,_,hz⟩
 rw [qdr] at hz
 cases hz
 intro k37
 rintro T29 w27 ⟨M28,cs30,d31,v32,xs33,l34,hx39,hS,hb30,hk35,hT29_2,hT29_4,hT29_5,hT29_6,hz⟩
 replace hcx1:=Rep.mono hx39.1 hcx1
 replace hb12:=Rep.mono hx39.1 hb12
 replace hE:=Qd hE hx39
 have hF38:=hx39
 rw [qdr] at hz
 obtain ⟨rec36,hrec36⟩ : ∃ f,f=qdr fu x1 k37:=⟨_,rfl⟩
 rw [← hrec36] at hz
 refine Qh <|Qh <|Qi <|Qc (Qe (v32) hT29_6) ?_
 obtain ⟨a40,c40,hv40,_⟩:=Vj hk35
 refine Qc (Zj Qu (Vv hv40 rfl)) <|Qc (Yr rfl rfl) ?_
 refine Qf (Qa ?_)
 refine Qr rfl (fun hc41 => ?_) (fun hc41 => ?_)
 replace hz:=Qn hz hc41
 refine Qt (Qa ?_)
 refine Qv <|Qh <|Qi <|Qc (Qe (v32) hT29_6) <|Qc (Qe (v32) hT29_6) ?_
 obtain ⟨a42,c42,hv42,_⟩:=Vj hk35
 refine Qc (Zj Qu (Vv hv42 rfl)) <|Qc (Kg rfl rfl) ?_
 obtain ⟨x44,hx43,hz⟩:=Qb hz
 obtain ⟨b43,o43,c43,hv43,hi43,hj43,hM43,hr43⟩:=qtm (hS.skv (j:=0) rfl hk35) hx43
 replace hr43:rep _ (sl xs33 (o43+Int.toNat (IntKind.wrap .i64 ((l34.length:Int)-1))*1) 1) x44:=hr43
 refine Qc (Ys V2 rfl hv43 rfl hi43 hj43) <|Qc (Qm (.int .i64 x44) Yb rfl (hS.bvK (j:=0) rfl hM43) hr43) <|Qc (Qj (.int .i64 x44) rfl) ?_
 refine Qf (Qa ?_)
 refine Qh <|Qi <|Qc (Qe (v32) hT29_6) <|Qc (Qe (v32) hT29_6) ?_
 obtain ⟨a45,c45,hv45,_⟩:=Vj hk35
 refine Qc (Zj Qu (Vv hv45 rfl)) <|Qc (Kg rfl rfl) ?_
 obtain ⟨l47,hx46,hz⟩:=Qb hz
 obtain ⟨⟨pp46,qq46⟩,hc46,hx46⟩:=Option.map_eq_some_iff.1 hx46
 obtain ⟨a46,c46,hv46,hn46⟩:=Vj hk35
 refine Qc (qs2 (l:=none) (h:=(some (IntKind.wrap .i64 ((l34.length:Int)-1)))) V2 rfl hv46 evn (evs rfl) hc46 hn46) ?_
 obtain ⟨hk46,hS⟩:=hS.pop (j:=0) rfl hk35 hc46
 rw [show (List.drop pp46 (List.take qq46 l34))=l47 from hx46] at hk46
 replace hk46:skr M28 (qj2 v32 1 pp46 qq46) (List.take (qq46*1) xs33) l47:=hk46
 refine Qc (Qj ((qj2 v32 1 pp46 qq46)) rfl) ?_
 refine Qf (Qa ?_)
 refine Qh <|Qh <|Qi <|Qc (Qe (.int .i64 x44) rfl) <|Qc (Qp q05 hT29_2) ?_
 obtain ⟨u48,hx49,hz⟩:=Qb hz
 obtain ⟨hx49a,hx49b⟩:=Qw hx49
 refine Qc (Ze Jn rfl rfl hx49a hx49b) ?_
 obtain ⟨x50,hx51,hz⟩:=Qb hz
 refine Qc (Qm (.bool x50) Jl rfl (hS.bvB 3 rfl) (vp (k:=1) rfl rfl (GGraph.p0 (rr hcx1)) hx51)) <|Qc (Ye rfl) ?_
 refine Qf (Qa ?_)
 refine Qr rfl (fun hc52 => ?_) (fun hc52 => ?_)
 replace hz:=Qn hz hc52
 refine Zq <|Qy <|Zs ?_
 refine (Qa ?_)
 exact ⟨M28,cs30,d31,(qj2 v32 1 pp46 qq46),(List.take (qq46*1) xs33),l47,hF38,hS,hb30,hk46,hT29_2,hT29_4,hT29_5,rfl,(by rw [← hrec36];exact hz)⟩
 replace hz:=Qo hz hc52
 refine Qt (Qa ?_)
 refine Qh <|Qi <|Qc (Qe (.int .i64 x44) rfl) <|Qc (Qp qxr hT29_2) ?_
 obtain ⟨u53,hx54,hz⟩:=Qb hz
 obtain ⟨hx54a,hx54b⟩:=Qw hx54
 refine Qc (Ze q9i rfl rfl hx54a hx54b) ?_
 obtain ⟨x55,hx56,hz⟩:=Qb hz
 obtain ⟨v57,ev57,hv57⟩:=(vp (k:=1) rfl rfl (Jb (rr hcx1)) hx56)
 refine Qc (Qm v57 Z4 rfl (hS.bvB 3 rfl) ev57) ?_
 obtain ⟨a58,c58,hv58,_⟩:=Q3 hv57
 refine Qc (Zj Qu (Vv hv58 rfl)) <|Qc (Qe (.int .i64 0) rfl) ?_
 refine Qf (Qa ?_)
 refine Qv ?_
 refine Zw (fun k70 T' w' => ∃ M60 cs62 d63 v64 xs65 l66 y68,Mm.ext w.heap.size noX M28 M60∧St w noX M60 [.stk v64 3 1 xs65,.box b8 cs62 58,.box b6 cs12 58,.box b4 cx1 61] w'∧rep M60 cs62 d63∧skr M60 v64 xs65 l66∧T' 2 = .pointer (some ⟨b4,0,none⟩)∧T' 4 = .pointer (some ⟨b6,0,none⟩)∧T' 5 = .pointer (some ⟨b8,0,none⟩)∧T' 6=v64∧T' 43=v57∧T' 44 = .int .i64 (x55.length:Int)∧T' 45 = .int .i64 y68∧qdq rec36 x55 k70 d63 l66 y68=some r) fu ?_ ?_ ?_
 exact ⟨M28,cs30,d31,(qj2 v32 1 pp46 qq46),(List.take (qq46*1) xs33),l47,(0:Int),(Qg _ _ _),hS,hb30,hk46,hT29_2,hT29_4,hT29_5,rfl,rfl,rfl,rfl,hz⟩
 rintro T' w' ⟨_,_,_,_,_,_,_,_,_,_,_,_,_,_,_,_,_,_,hz⟩
 rw [qdq] at hz
 cases hz
 intro k70
 rintro T61 w59 ⟨M60,cs62,d63,v64,xs65,l66,y68,hx72,hS,hb62,hk67,hT61_2,hT61_4,hT61_5,hT61_6,hT61_43,hT61_44,hT61_45,hz⟩
 replace hv57:=Qz hx72.1 hv57
 replace hF38:=Qd hF38 hx72
 have hF71:=hx72
 rw [qdq] at hz
 obtain ⟨rec69,hrec69⟩ : ∃ f,f=qdq rec36 x55 k70:=⟨_,rfl⟩
 rw [← hrec69] at hz
 refine Qh <|Qi <|Qc (Zv hT61_45 hT61_44) ?_
 refine Qf (Qa ?_)
 refine Qh ?_
 refine Qr rfl (fun hc73 => ?_) (fun hc73 => ?_)
 replace hz:=Qn hz hc73
 refine Qt (Qa ?_)
 refine Q0 (fun T' w' => ∃ M75 cs77 d78 v79 xs80 l81,Mm.ext w.heap.size noX M60 M75∧St w noX M75 [.stk v79 3 1 xs80,.box b8 cs77 58,.box b6 cs12 58,.box b4 cx1 61] w'∧rep M75 cs77 d78∧skr M75 v79 xs80 l81∧T' 2 = .pointer (some ⟨b4,0,none⟩)∧T' 4 = .pointer (some ⟨b6,0,none⟩)∧T' 5 = .pointer (some ⟨b8,0,none⟩)∧T' 6=v79∧T' 43=v57∧T' 44 = .int .i64 (x55.length:Int)∧T' 45 = .int .i64 y68∧qle y68 rec69 d78 l81=some r) ?_ ?_
 have hF84:=Qg w.heap.size noX M60
 refine Qv <|Qh <|Qi ?_
 obtain ⟨x86,hx85,hz⟩:=Qb hz
 obtain ⟨b85,o85,c85,p85,hv85,hi85,hj85,hM85,hr85⟩:=Yf hv57 hx85
 replace hr85:rep _ (sl p85 (o85+Int.toNat y68*1) 1) x86:=hr85
 refine Qc (Ys V2 hT61_43 hv85 hT61_45 hi85 hj85) <|Qc (Qm (.int .i64 x86) Yb rfl (hS.bvM hM85) hr85) <|Qc (Qj (.int .i64 x86) rfl) ?_
 refine Qf (Qa ?_)
 refine Q0 (fun T' w' => ∃ M88 c90,Mm.ext w.heap.size noX M60 M88∧St w noX M88 [.stk v64 3 1 xs65,.box b8 cs62 58,.box b6 cs12 58,.box b4 cx1 61] w'∧T' 2 = .pointer (some ⟨b4,0,none⟩)∧T' 4 = .pointer (some ⟨b6,0,none⟩)∧T' 5 = .pointer (some ⟨b8,0,none⟩)∧T' 6=v64∧T' 9 = .int .i64 x86∧T' 43=v57∧T' 44 = .int .i64 (x55.length:Int)∧T' 45 = .int .i64 y68∧T' 60 = .bool c90∧qjn d63 l66 y68 rec69 x86 c90=some r) ?_ ?_
 have hF107:=Qg w.heap.size noX M60
 refine Qi <|Qc (Qe (.int .i64 x86) rfl) <|Qc (Vd rfl rfl) <|Qc (Qe (.bool (decide (x86≥0))) rfl) ?_
 rcases ic hz with ⟨hc108,hz⟩ | ⟨hc108,hz⟩<;>rw [hc108]
 refine Qk rfl rfl (Qe (.int .i64 x86) rfl) <|Qk rfl rfl (Zv rfl rfl) <|Q2 2 rfl ?_
 rcases ic hz with ⟨hc109,hz⟩ | ⟨hc109,hz⟩<;>rw [hc109]
 refine Qk rfl rfl (Qe (.int .i64 x86) rfl) ?_
 obtain ⟨u110,hx111,hz⟩:=Qb hz
 obtain ⟨hx111a,hx111b⟩:=Qw hx111
 refine Qk rfl rfl (Ze Jn hT61_5 rfl hx111a hx111b) ?_
 obtain ⟨x112,hx113,hz⟩:=Qb hz
 refine Qk rfl rfl (Qm (.bool x112) Jl rfl (hS.bvB 1 rfl) (vp (k:=1) rfl rfl (rr hb62) hx113)) <|Qk rfl rfl (Ye rfl) <|Qc (Zy (.bool (!x112)) rfl rfl) ?_
 refine Qf (Qa ?_)
 exact ⟨M60,(!x112),hF107,hS,hT61_2,hT61_4,hT61_5,hT61_6,rfl,hT61_43,hT61_44,hT61_45,rfl,hz⟩
 refine Q2 5 rfl ?_
 refine Qf (Qa ?_)
 exact ⟨M60,false,hF107,hS,hT61_2,hT61_4,hT61_5,hT61_6,rfl,hT61_43,hT61_44,hT61_45,rfl,hz⟩
 refine Q2 9 rfl ?_
 refine Qf (Qa ?_)
 exact ⟨M60,false,hF107,hS,hT61_2,hT61_4,hT61_5,hT61_6,rfl,hT61_43,hT61_44,hT61_45,rfl,hz⟩
 rintro T89 w87 ⟨M88,c90,hx91,hS,hT89_2,hT89_4,hT89_5,hT89_6,hT89_9,hT89_43,hT89_44,hT89_45,hT89_60,hz⟩
 replace hb62:=Rep.mono hx91.1 hb62
 replace hk67:=Zn hx91.1 hk67
 replace hF84:=Qd hF84 hx91
 rw [qjn] at hz
 refine Qr hT89_60 (fun hc92 => ?_) (fun hc92 => ?_)
 replace hz:=Qn hz hc92
 refine Qh <|Qi <|Qc (Qe (.int .i64 x86) hT89_9) ?_
 obtain ⟨u93,hx94,hz⟩:=Qb hz
 obtain ⟨hx94a,hx94b⟩:=Qw hx94
 refine Qc (Ze Jn hT89_5 rfl hx94a hx94b) ?_
 obtain ⟨x97,hx98,hz⟩:=Qb hz
 obtain ⟨a99,hx100,hz⟩:=Qb hz
 obtain ⟨d101,hd96,hz⟩:=Qb hz
 refine Qs (Q8 1 1 hS rfl hb62 rfl rfl (rb true:rep M88 _ _) rfl rfl (vu (k:=1) rfl rfl (rr hb62) (Lf (vp (k:=1) rfl rfl (rr hb62) hx98) (rb true:rep M88 _ _)) hx100) hd96 ?_)
 intro cs96 w95 hb96 ha96 hs96 hS
 refine Qf (Qa ?_)
 refine Qi <|Qc (Qe (v64) hT89_6) <|Qc (Qe (.int .i64 x86) hT89_9) ?_
 refine Qs (Z0 (α := Int) (l:=([x86]:List Int)) [.int .i64 x86] qy0 (Ym rfl Vb) rfl rfl (by decide) (by decide) (by decide) hS (K3 (ri x86:rep M88 _ _) Jk) ?_)
 intro v103 M103 w102 hx103 hv103 hS
 replace hk67:=Zn hx103.1 hk67
 replace hb96:=Rep.mono hx103.1 hb96
 replace hF84:=Qd hF84 hx103
 obtain ⟨l106,hr105,hz⟩:=Qb hz
 obtain ⟨hy105,hs105⟩:=Z1 hr105
 refine Qs (q1g (α := Int) (j:=0) Ji hS rfl rfl rfl hk67 hv103 hy105 ?_)
 intro v105 xs105 w104 hk105 hS
 rw [← hs105] at hk105
 clear hr105 hs105
 refine Qc (Qj (v105) rfl) ?_
 refine Qf (Za ?_)
 refine (Qa ?_)
 exact ⟨M103,cs96,d101,v105,xs105,l106,hF84,hS,hb96,hk105,hT89_2,hT89_4,hT89_5,rfl,hT89_43,hT89_44,hT89_45,hz⟩
 replace hz:=Qo hz hc92
 refine Qt (Za ?_)
 refine (Qa ?_)
 exact ⟨M88,cs62,d63,v64,xs65,l66,hF84,hS,hb62,hk67,hT89_2,hT89_4,hT89_5,hT89_6,hT89_43,hT89_44,hT89_45,hz⟩
 rintro T76 w74 ⟨M75,cs77,d78,v79,xs80,l81,hx83,hS,hb77,hk82,hT76_2,hT76_4,hT76_5,hT76_6,hT76_43,hT76_44,hT76_45,hz⟩
 replace hF71:=Qd hF71 hx83
 rw [qle] at hz
 refine Qi <|Qc (Zz hT76_45 rfl) <|Qc (Qe (.int .i64 (IntKind.wrap .i64 (y68+1))) rfl) ?_
 refine Qf (Qa ?_)
 exact ⟨M75,cs77,d78,v79,xs80,l81,(IntKind.wrap .i64 (y68+1)),hF71,hS,hb77,hk82,hT76_2,hT76_4,hT76_5,hT76_6,hT76_43,hT76_44,rfl,(by rw [← hrec69];exact hz)⟩
 replace hz:=Qo hz hc73
 refine Zq <|Qy <|Qy <|Zs ?_
 refine (Za ?_)
 refine (Qa ?_)
 exact ⟨M60,cs62,d63,v64,xs65,l66,hF38,hS,hb62,hk67,hT61_2,hT61_4,hT61_5,hT61_6,(by rw [← hrec36];exact hz)⟩
 replace hz:=Qo hz hc41
 refine Zq <|Qy <|Qy <|Zs ?_
 refine (Qa ?_)
 refine Qh <|Qi ?_
 have ha114:=(rr hb30)
 refine Qc (Zf q8l hT29_5 (hS.bvB 1 rfl) (Rep.len ha114)) ?_
 obtain ⟨d117,hd116,hz⟩:=Qb hz
 refine Qs (Q8 2 32 hS rfl hb12 hT29_4 rfl ha114 rfl rfl (Lf (rr hb12) ha114) hd116 ?_)
 intro cs116 w115 hb116 ha116 hs116 hS
 refine Qf (Qa ?_)
 cases hz
 exact Q4 (Jq (j:=2) rfl hT29_4 (by rw [Rep.len hb116];exact q8l) hS rfl (Zk (Ql (Ql (Ql (Ql hS)))) hE ⟨_,rfl,hb116⟩))
def qn4 (y16:Int) (rec17:Int→Option Bool):Option Bool :=
 rec17 (IntKind.wrap .i64 (y16+1))
def qlf (y16:Int) (rec17:Int→Option Bool) (c32:Bool):Option Bool :=
 (bif c32 then
 some false
 else
 qn4 y16 rec17)
def qd8 (x1:GGraph) (r12:(Vector Bool 32)):Nat→Int→Option Bool
 | 0,_=>none
 | n+1,y16 =>
 (bif decide (y16<32) then
 (qa7 r12 y16).bind fun x27 =>
 (bif x27 then
 (inR y16 32).bind fun _ =>
 (qa7 x1.known y16).bind fun x39 =>
 qlf y16 (qd8 x1 r12 n) (!x39)
 else
 qlf y16 (qd8 x1 r12 n) false)
 else
 some true)
def qn5 (fu:Nat) (x1:GGraph) (x2:Int):Option Bool :=
 (qtv fu x1 x2).bind fun r12 =>
 qd8 x1 r12 fu 0
def qjp (fu:Nat) (x1:GGraph) (x2:Int) (c45:Bool):Option Bool :=
 (bif c45 then
 some false
 else
 qn5 fu x1 x2)
def qtw (fu:Nat) (x1:GGraph) (x2:Int):Option Bool :=
 (bif decide (x2<0) then
 qjp fu x1 x2 true
 else
 qjp fu x1 x2 (decide (x2≥32)))
theorem q4c {M:Mm} {w:World} {cx1:List Value} {x1:GGraph} {x2:Int} {fu:Nat} {r:Bool} (hA:Agree M w) (hcx1:rep M cx1 x1) (hz:qtw fu x1 x2=some r) :
    Calls Try.prog 55 #[.agg cx1.toArray,.int .i64 x2] w (qc1 w (.bool r)):=by
 refine Zh Try.func55 rfl 29 rfl rfl (by kernel_rfl) fun T hT => ?_
 have hT_0:T 0 = .agg cx1.toArray:=hT 0
 have hT_1:T 1 = .int .i64 x2:=hT 1
 clear hT
 have hE:=Qg w.heap.size noX M
 have hS:St w noX M [] w:=Zx hA
 rw [qtw] at hz
 refine Qh <|Qi ?_
 refine Qs (Yo (v := .agg cx1.toArray) (cs:=cx1) hT_0 rfl hS ?_)
 intro b4 w3 hb4 hS
 refine Qc (Qj (.bool false) rfl) ?_
 refine Qf (Qa ?_)
 refine Q0 (fun T' w' => ∃ M6,Mm.ext w.heap.size noX M M6∧St w noX M6 [.box b4 cx1 61] w'∧T' 1 = .int .i64 x2∧T' 2 = .pointer (some ⟨b4,0,none⟩)∧qn5 fu x1 x2=some r) ?_ ?_
 have hF41:=Qg w.heap.size noX M
 refine Q0 (fun T' w' => ∃ M43 c45,Mm.ext w.heap.size noX M M43∧St w noX M43 [.box b4 cx1 61] w'∧T' 1 = .int .i64 x2∧T' 2 = .pointer (some ⟨b4,0,none⟩)∧T' 12 = .bool c45∧qjp fu x1 x2 c45=some r) ?_ ?_
 have hF48:=Qg w.heap.size noX M
 refine Qi <|Qc (Qe (.int .i64 x2) hT_1) <|Qc (Zv rfl rfl) <|Qc (Qe (.bool (decide (x2<0))) rfl) ?_
 rcases ic hz with ⟨hc49,hz⟩ | ⟨hc49,hz⟩<;>rw [hc49]
 refine Q2 3 rfl ?_
 refine Qf (Qa ?_)
 exact ⟨M,true,hF48,hS,hT_1,rfl,rfl,hz⟩
 refine Qk rfl rfl (Qe (.int .i64 x2) hT_1) <|Qk rfl rfl (Vd rfl rfl) <|Qc (Zi (.bool (decide (x2≥32))) rfl rfl) ?_
 refine Qf (Qa ?_)
 exact ⟨M,(decide (x2≥32)),hF48,hS,hT_1,rfl,rfl,hz⟩
 rintro T44 w42 ⟨M43,c45,hx46,hS,hT44_1,hT44_2,hT44_12,hz⟩
 replace hF41:=Qd hF41 hx46
 rw [qjp] at hz
 refine Qr hT44_12 (fun hc47 => ?_) (fun hc47 => ?_)
 replace hz:=Qn hz hc47
 refine Qh <|Qi <|Qc (Qj (.bool false) rfl) ?_
 refine Qf (Qa ?_)
 cases hz
 exact Q4 (Qq (Yg rfl rfl ⟨rfl,(Ql hS).kept⟩))
 replace hz:=Qo hz hc47
 refine Qt (Qa ?_)
 exact ⟨M43,hF41,hS,hT44_1,hT44_2,hz⟩
 rintro T7 w5 ⟨M6,hx8,hS,hT7_1,hT7_2,hz⟩
 replace hcx1:=Rep.mono hx8.1 hcx1
 rw [qn5] at hz
 refine Qh <|Qh <|Qi ?_
 have ha9:=(rr hcx1)
 refine Qc (Zf q69 hT7_2 (hS.bvB 0 rfl) (Rep.len ha9)) <|Qc (Qe (.int .i64 x2) hT7_1) ?_
 obtain ⟨r12,hr11,hz⟩:=Qb hz
 refine Qs (Y0 (vs:=[.agg (sl cx1 (0) 64).toArray,.int .i64 x2]) (rv:=(fun M' u => ∃ cs,u = .agg cs.toArray∧rep M' cs r12)) cb76 (Z8 rfl rfl) hS (q4b hS.agree ha9 hr11) ?_)
 intro u11 M11 w10 hx11 hu11 hS
 obtain ⟨c11,hq11,f11⟩:=hu11
 subst hq11
 replace hcx1:=Rep.mono hx11.1 hcx1
 refine Qc (Qe (.int .i64 0) rfl) ?_
 refine Qf (Qa ?_)
 refine Qv ?_
 refine Zw (fun k18 T' w' => ∃ M14 y16,Mm.ext w.heap.size noX M11 M14∧St w noX M14 [.box b4 cx1 61] w'∧T' 2 = .pointer (some ⟨b4,0,none⟩)∧T' 15 = .agg c11.toArray∧T' 16 = .int .i64 y16∧qd8 x1 r12 k18 y16=some r) fu ?_ ?_ ?_
 exact ⟨M11,(0:Int),(Qg _ _ _),hS,hT7_2,rfl,rfl,hz⟩
 rintro T' w' ⟨_,_,_,_,_,_,_,hz⟩
 rw [qd8] at hz
 cases hz
 intro k18
 rintro T15 w13 ⟨M14,y16,hx20,hS,hT15_2,hT15_15,hT15_16,hz⟩
 replace hcx1:=Rep.mono hx20.1 hcx1
 replace f11:=Rep.mono hx20.1 f11
 have hF19:=hx20
 rw [qd8] at hz
 obtain ⟨rec17,hrec17⟩ : ∃ f,f=qd8 x1 r12 k18:=⟨_,rfl⟩
 rw [← hrec17] at hz
 refine Qh <|Qi <|Qc (Zv hT15_16 rfl) ?_
 refine Qf (Qa ?_)
 refine Qh ?_
 refine Qr rfl (fun hc21 => ?_) (fun hc21 => ?_)
 replace hz:=Qn hz hc21
 refine Qt (Qa ?_)
 refine Q0 (fun T' w' => ∃ M23,Mm.ext w.heap.size noX M14 M23∧St w noX M23 [.box b4 cx1 61] w'∧T' 2 = .pointer (some ⟨b4,0,none⟩)∧T' 15 = .agg c11.toArray∧T' 16 = .int .i64 y16∧qn4 y16 rec17=some r) ?_ ?_
 have hF26:=Qg w.heap.size noX M14
 refine Qv <|Qh <|Qi <|Qc (Qe (.int .i64 y16) hT15_16) ?_
 obtain ⟨x27,hx28,hz⟩:=Qb hz
 obtain ⟨hx28a,hx28b,hx28⟩:=qoh f11 hx28
 refine Qc (q7s (.bool x27) iv58 hT15_15 hT15_16 hx28a hx28b hx28) <|Q2 2 rfl ?_
 refine Qf (Qa ?_)
 refine Q0 (fun T' w' => ∃ M30 c32,Mm.ext w.heap.size noX M14 M30∧St w noX M30 [.box b4 cx1 61] w'∧T' 2 = .pointer (some ⟨b4,0,none⟩)∧T' 15 = .agg c11.toArray∧T' 16 = .int .i64 y16∧T' 27 = .bool c32∧qlf y16 rec17 c32=some r) ?_ ?_
 have hF35:=Qg w.heap.size noX M14
 refine Qi <|Q2 2 rfl ?_
 rcases ic hz with ⟨hc36,hz⟩ | ⟨hc36,hz⟩<;>rw [hc36]
 refine Qk rfl rfl (Qe (.int .i64 y16) rfl) <|Qk rfl rfl (Qp q05 hT15_2) ?_
 obtain ⟨u37,hx38,hz⟩:=Qb hz
 obtain ⟨hx38a,hx38b⟩:=Qw hx38
 refine Qk rfl rfl (Ze Jn rfl rfl hx38a hx38b) ?_
 obtain ⟨x39,hx40,hz⟩:=Qb hz
 refine Qk rfl rfl (Qm (.bool x39) Jl rfl (hS.bvB 0 rfl) (vp (k:=1) rfl rfl (GGraph.p0 (rr hcx1)) hx40)) <|Qk rfl rfl (Ye rfl) <|Qc (Zy (.bool (!x39)) rfl rfl) ?_
 refine Qf (Qa ?_)
 exact ⟨M14,(!x39),hF35,hS,hT15_2,hT15_15,hT15_16,rfl,hz⟩
 refine Q2 6 rfl ?_
 refine Qf (Qa ?_)
 exact ⟨M14,false,hF35,hS,hT15_2,hT15_15,hT15_16,rfl,hz⟩
 rintro T31 w29 ⟨M30,c32,hx33,hS,hT31_2,hT31_15,hT31_16,hT31_27,hz⟩
 replace hF26:=Qd hF26 hx33
 rw [qlf] at hz
 refine Qr hT31_27 (fun hc34 => ?_) (fun hc34 => ?_)
 replace hz:=Qn hz hc34
 refine Qh <|Qi <|Qc (Qj (.bool false) rfl) ?_
 refine Qf (Qa ?_)
 cases hz
 exact Q4 (Zb (Qq (Qq (Zb (Qq (Yg rfl rfl ⟨rfl,(Ql hS).kept⟩))))))
 replace hz:=Qo hz hc34
 refine Qt (Za ?_)
 refine (Qa ?_)
 exact ⟨M30,hF26,hS,hT31_2,hT31_15,hT31_16,hz⟩
 rintro T24 w22 ⟨M23,hx25,hS,hT24_2,hT24_15,hT24_16,hz⟩
 replace hF19:=Qd hF19 hx25
 rw [qn4] at hz
 refine Qi <|Qc (Zz hT24_16 rfl) <|Qc (Qe (.int .i64 (IntKind.wrap .i64 (y16+1))) rfl) ?_
 refine Qf (Qa ?_)
 exact ⟨M23,(IntKind.wrap .i64 (y16+1)),hF19,hS,hT24_2,hT24_15,rfl,(by rw [← hrec17];exact hz)⟩
 replace hz:=Qo hz hc21
 refine Zq <|Qy <|Qy <|Zs ?_
 refine (Qa ?_)
 refine Qh <|Qi <|Qc (Qj (.bool true) rfl) ?_
 refine Qf (Qa ?_)
 cases hz
 exact Q4 (Yg rfl rfl ⟨rfl,(Ql hS).kept⟩)
def qhq (y75:Int) (rec76:GSearch→(List Int)→Int→Option (GSearch × (List Int))) (d85:GSearch) (l88:List Int):Option (GSearch × (List Int)) :=
 rec76 d85 l88 (IntKind.wrap .i64 (y75+1))
def qlg (x4:Int) (rec0:GSearch→(List Int)→Int→Option (GSearch × (List Int))) (d69:GSearch) (l72:List Int) (y75:Int) (rec76:GSearch→(List Int)→Int→Option (GSearch × (List Int))) (x94:Int) (c98:Bool):Option (GSearch × (List Int)) :=
 (bif c98 then
 qhq y75 rec76 d69 l72
 else
 (inR x94 32).bind fun _ =>
 (qa7 d69.mark_ x94).bind fun x103 =>
 (bif x103==0 then
 (rec0 d69 l72 x94).bind fun r108 =>
 (inR x4 32).bind fun _ =>
 (qa7 r108.1.low x4).bind fun x114 =>
 (inR x94 32).bind fun _ =>
 (qa7 r108.1.low x94).bind fun x118 =>
 (inR x4 32).bind fun _ =>
 (qa7 r108.1.low x4).bind fun x124 =>
 (qe2 r108.1.low x4 (min x114 x118)).bind fun a126 =>
 (some ({ r108.1 with low:=a126 }:GSearch)).bind fun d128 =>
 qhq y75 rec76 d128 r108.2
 else
 (inR x94 32).bind fun _ =>
 (qa7 d69.on_ x94).bind fun x133 =>
 (bif x133 then
 (inR x4 32).bind fun _ =>
 (qa7 d69.low x4).bind fun x141 =>
 (inR x94 32).bind fun _ =>
 (qa7 d69.mark_ x94).bind fun x145 =>
 (inR x4 32).bind fun _ =>
 (qa7 d69.low x4).bind fun x151 =>
 (qe2 d69.low x4 (min x141 x145)).bind fun a153 =>
 (some ({ d69 with low:=a153 }:GSearch)).bind fun d155 =>
 qhq y75 rec76 d155 l72
 else
 qhq y75 rec76 d69 l72)))
def qd9 (l72:List Int) (y174:Int) (y188:Int) (l198:List Int):Nat→GSearch→Int→Option (GSearch × (List Int))
 | 0,_,_=>none
 | n+1,d204,y206 =>
 (bif decide (y206<(l198.length:Int)) then
 (idx l198 y206).bind fun x213 =>
 (inR x213 32).bind fun _ =>
 (qa7 d204.ring x213).bind fun x221 =>
 (qe2 d204.ring x213 y188).bind fun a223 =>
 (some ({ d204 with ring:=a223 }:GSearch)).bind fun d225 =>
 (inR x213 32).bind fun _ =>
 (qa7 d225.on_ x213).bind fun x233 =>
 (qe2 d225.on_ x213 false).bind fun a235 =>
 (some ({ d225 with on_:=a235 }:GSearch)).bind fun d237 =>
 (qd9 l72 y174 y188 l198 n) d237 (IntKind.wrap .i64 (y206+1))
 else
 (qqs l72 none (some y174)).bind fun l242 =>
 (some ({ d204 with stack:=Hole.mk }:GSearch)).bind fun d245 =>
 some (d245,l242))
def qea (fu:Nat) (d69:GSearch) (l72:List Int) (y174:Int) (l183:List Int):Nat→Int→Int→Option (GSearch × (List Int))
 | 0,_,_=>none
 | n+1,y188,y189 =>
 (bif decide (y189<(l183.length:Int)) then
 (idx l183 y189).bind fun x196 =>
 (qea fu d69 l72 y174 l183 n) (min y188 x196) (IntKind.wrap .i64 (y189+1))
 else
 (qqs l72 (some y174) none).bind fun l198 =>
 qd9 l72 y174 y188 l198 fu d69 0)
def qfk (fu:Nat) (x4:Int) (d69:GSearch) (l72:List Int):Nat→Int→Option (GSearch × (List Int))
 | 0,_=>none
 | n+1,y174 =>
 (idx l72 y174).bind fun x180 =>
 (bif x180 != x4 then
 (qfk fu x4 d69 l72 n) (IntKind.wrap .i64 (y174-1))
 else
 (qqs l72 (some y174) none).bind fun l183 =>
 qea fu d69 l72 y174 l183 fu x4 0)
def qeb (fu:Nat) (x4:Int) (rec0:GSearch→(List Int)→Int→Option (GSearch × (List Int))) (x61:List Int):Nat→GSearch→(List Int)→Int→Option (GSearch × (List Int))
 | 0,_,_,_=>none
 | n+1,d69,l72,y75 =>
 (bif decide (y75<(x61.length:Int)) then
 (idx x61 y75).bind fun x94 =>
 (bif decide (x94<0) then
 qlg x4 rec0 d69 l72 y75 (qeb fu x4 rec0 x61 n) x94 true
 else
 qlg x4 rec0 d69 l72 y75 (qeb fu x4 rec0 x61 n) x94 (decide (x94≥32)))
 else
 (inR x4 32).bind fun _ =>
 (qa7 d69.low x4).bind fun x162 =>
 (inR x4 32).bind fun _ =>
 (qa7 d69.mark_ x4).bind fun x166 =>
 (bif x162 != x166 then
 some (d69,l72)
 else
 qfk fu x4 d69 l72 fu (IntKind.wrap .i64 ((l72.length:Int)-1))))
def qhr (fu:Nat):Nat→GSearch→(List Int)→Int→Option (GSearch × (List Int))
 | 0,_,_,_=>none
 | n+1,x1,l3,x4 =>
 (some ({ x1 with next:=IntKind.wrap .i64 (x1.next+1) }:GSearch)).bind fun d7 =>
 (inR x4 32).bind fun _ =>
 (qa7 d7.mark_ x4).bind fun x16 =>
 (qe2 d7.mark_ x4 d7.next).bind fun a18 =>
 (some ({ d7 with mark_:=a18 }:GSearch)).bind fun d20 =>
 (inR x4 32).bind fun _ =>
 (qa7 d20.low x4).bind fun x27 =>
 (qe2 d20.low x4 d7.next).bind fun a29 =>
 (some ({ d20 with low:=a29 }:GSearch)).bind fun d31 =>
 (app l3 ([x4]:List Int)).bind fun l42 =>
 (some ({ d31 with stack:=Hole.mk }:GSearch)).bind fun d46 =>
 (inR x4 32).bind fun _ =>
 (qa7 d46.on_ x4).bind fun x52 =>
 (qe2 d46.on_ x4 true).bind fun a54 =>
 (some ({ d46 with on_:=a54 }:GSearch)).bind fun d56 =>
 (inR x4 32).bind fun _ =>
 (qa7 d56.g.deps x4).bind fun x61 =>
 qeb fu x4 (qhr fu n) x61 fu d56 l42 0
def q1n (fu:Nat) (x1:GSearch) (l3:List Int) (x4:Int):Option (GSearch × (List Int)) :=
 qhr fu fu x1 l3 x4
theorem q1o (fu:Nat) : ∀ (nn:Nat) {M:Mm} {w:World} {bx1:Nat} {cx1:List Value} {ux1_4:Value} {xsx1_4:List Value} {x1:GSearch} {l3:List Int} {x4:Int} {r:GSearch × (List Int)} (hS:St w (qai [.box bx1 cx1 104,.stk ux1_4 3 1 xsx1_4]) M [.box bx1 cx1 104,.stk ux1_4 3 1 xsx1_4] w) (hcx1:rep M cx1 x1) (hkx1_4:skr M ux1_4 xsx1_4 l3) (hpx1_4:sl cx1 160 1=[ux1_4]) (hz:qhr fu nn x1 l3 x4=some r),
    Calls Try.prog 56 #[.pointer (some ⟨bx1,0,none⟩),.int .i64 x4] w (qcv M w [.box bx1 cx1 104,.stk ux1_4 3 1 xsx1_4] (fun M' u L' => ∃ k0 u1 x1,u = .tuple #[]∧L'=[.box bx1 k0 104,.stk u1 3 1 x1]∧rep M' k0 r.1∧skr M' u1 x1 r.2∧sl k0 160 1=[u1])):=by
 intro nn
 induction nn with
 | zero=>intros;rename_i hz;rw [qhr] at hz;cases hz
 | succ nn ih =>
  intro M w bx1 cx1 ux1_4 xsx1_4 x1 l3 x4 r hS hcx1 hkx1_4 hpx1_4 hz
  refine Zh Try.func56 rfl 204 rfl rfl (by kernel_rfl) fun T hT => ?_
  have hT_0:T 0 = .pointer (some ⟨bx1,0,none⟩):=hT 0
  have hT_1:T 1 = .int .i64 x4:=hT 1
  clear hT
  have hE:=Qg w.heap.size (qai [.box bx1 cx1 104,.stk ux1_4 3 1 xsx1_4]) M
  rw [qhr] at hz
  obtain ⟨rec0,hrec0⟩ : ∃ f,f=qhr fu nn:=⟨_,rfl⟩
  rw [← hrec0] at hz ih
  refine Qh <|Qi <|Qc (Qe (.pointer (some ⟨bx1,0,none⟩)) hT_0) <|Qc (Q6 rfl) <|Qc (Qp qr3 rfl) <|Qc (Qm (.int .i64 x1.next) Yb rfl (hS.bvB 0 rfl) (GSearch.p6 (rr hcx1))) <|Qc (Zz rfl rfl) <|Qc (Q6 rfl) <|Qc (Qp qr3 rfl) ?_
  obtain ⟨d7,hd6,hz⟩:=Qb hz
  refine Qs (Q8 0 1 hS rfl hcx1 rfl rfl (ri (IntKind.wrap .i64 (x1.next+1)):rep M _ _) rfl rfl (GSearch.u6 (rr hcx1) (Lf (GSearch.p6 (rr hcx1)) (ri (IntKind.wrap .i64 (x1.next+1)):rep M _ _))) hd6 ?_)
  intro cs6 w5 hb6 ha6 hs6 hS
  have hp8:=(ha6 (by omega)).trans hpx1_4
  refine Qf (Qa ?_)
  refine Qh <|Yu [.box bx1 cs6 104] [15,19] Ya hS fun w9 hS hG10 hR11=>wy 0 rfl (Qe (.pointer (some ⟨bx1,0,none⟩)) hT_0) (fun _=>hR11) <|wy 1 rfl (Qe (.int .i64 x4) hT_1) (fun _=>hR11) <|wy 2 rfl (Qe (.pointer (some ⟨bx1,0,none⟩)) hT_0) (fun _=>hR11) <|wy 3 rfl (Qe (.int .i64 x4) hT_1) (fun _=>hR11) <|wy 4 rfl (Qe (.pointer (some ⟨bx1,0,none⟩)) hT_0) (fun _=>hR11) <|wy 5 rfl (Q6 rfl) (fun _=>hR11) <|wy 6 rfl (Qp qr3 rfl) (fun _=>hR11) <|Y8 7 rfl (Qm (.int .i64 d7.next) Yb rfl (Yp 0 rfl) (GSearch.p6 (rr hb6))) hR11 <|wy 8 rfl (Qe (.pointer (some ⟨bx1,0,none⟩)) hT_0) (fun _=>hR11) <|wy 9 rfl (Q6 rfl) (fun _=>hR11) <|wy 10 rfl (Qp qr3 rfl) (fun _=>hR11) <|Y8 11 rfl (Qm (.int .i64 d7.next) Yb rfl (Yp 0 rfl) (GSearch.p6 (rr hb6))) hR11 <|wy 12 rfl (Q6 rfl) (fun _=>hR11) <|wy 13 rfl (Qp Jc rfl) (fun _=>hR11) ?_
  obtain ⟨u12,hx13,hz⟩:=Qb hz
  obtain ⟨hx13a,hx13b⟩:=Qw hx13
  refine wy 14 rfl (Ze K2 rfl rfl hx13a hx13b) (fun _=>hR11) <|wy 16 rfl (Q6 rfl) (fun _=>hR11) <|wy 17 rfl (Qp Jd rfl) (fun _=>hR11) ?_
  obtain ⟨x16,hx17,hz⟩:=Qb hz
  obtain ⟨a18,hx19,hz⟩:=Qb hz
  obtain ⟨d20,hd15,hz⟩:=Qb hz
  have hq22:=(Zo hx17)
  refine w1 15 rfl (Q8 0 1 hS rfl hb6 rfl rfl (ri d7.next:rep M _ _) rfl rfl (GSearch.u1 (rr hb6) (vu (k:=1) rfl rfl (Vr (rr hb6)) (Lf (vp (k:=1) rfl rfl (Vr (rr hb6)) hx17) (ri d7.next:rep M _ _)) hx19)) hd15 ?_)
  intro cs15 w14 hb15 ha15 hs15 hS
  have hp21:=(ha15 (by omega)).trans hp8
  refine ⟨nB,?_⟩
  obtain ⟨u23,hx24,hz⟩:=Qb hz
  obtain ⟨hx24a,hx24b⟩:=Qw hx24
  refine wy 18 rfl (Ze K2 rfl rfl hx24a hx24b) nB ?_
  obtain ⟨x27,hx28,hz⟩:=Qb hz
  obtain ⟨a29,hx30,hz⟩:=Qb hz
  obtain ⟨d31,hd26,hz⟩:=Qb hz
  have hq33:=(Zo hx28)
  refine w1 19 rfl (Q8 0 1 hS rfl hb15 rfl rfl (ri d7.next:rep M _ _) rfl rfl (GSearch.u2 (rr hb15) (vu (k:=1) rfl rfl (Y5 (rr hb15)) (Lf (vp (k:=1) rfl rfl (Y5 (rr hb15)) hx28) (ri d7.next:rep M _ _)) hx30)) hd26 ?_)
  intro cs26 w25 hb26 ha26 hs26 hS
  have hp32:=(ha26 (by omega)).trans hp21
  refine ⟨nB,?_⟩
  refine wd (Qa ?_)
  refine Qh <|Yu [.box bx1 cs26 104] [12,16] Ya hS fun w34 hS hG35 hR36=>wy 0 rfl (Qe (.pointer (some ⟨bx1,0,none⟩)) hT_0) (fun _=>hR36) <|wy 1 rfl (Qe (.pointer (some ⟨bx1,0,none⟩)) hT_0) (fun _=>hR36) <|wy 2 rfl (Qe (.int .i64 x4) hT_1) (fun _=>hR36) <|wy 3 rfl (Qe (.pointer (some ⟨bx1,0,none⟩)) hT_0) (fun _=>hR36) <|wy 4 rfl (Q6 rfl) (fun _=>hR36) <|wy 5 rfl (Qp Kw rfl) (fun _=>hR36) <|Y8 6 rfl (Qm ux1_4 Z4 rfl (Yp 0 rfl) hp32) hR36 <|wy 7 rfl (Qe (.int .i64 x4) hT_1) (fun _=>hR36) <|wy 13 rfl (Q6 rfl) (fun _=>hR36) <|wy 14 rfl (Qp qv3 rfl) (fun _=>hR36) ?_
  refine w1 8 rfl (Z0 (α := Int) (l:=([x4]:List Int)) [.int .i64 x4] qy0 (Ym rfl Vb) rfl rfl (by decide) (by decide) (by decide) hS (K3 (ri x4:rep M _ _) Jk) ?_)
  intro v38 M38 w37 hx38 hv38 hS
  replace hkx1_4:=Zn hx38.1 hkx1_4
  replace hb26:=Rep.mono hx38.1 hb26
  replace hE:=Qd hE hx38
  replace hG35:=Qd hG35 hx38
  refine Yq hS hG35 fun hR39 => ?_
  obtain ⟨l42,hr41,hz⟩:=Qb hz
  obtain ⟨hy41,hs41⟩:=Z1 hr41
  refine w1 9 rfl (q1g (α := Int) (j:=1) Ji hS rfl rfl rfl hkx1_4 hv38 hy41 ?_)
  intro v41 xs41 w40 hk41 hS
  rw [← hs41] at hk41
  clear hr41 hs41
  refine Yq hS hG35 fun hR43=>wy 10 rfl (Q6 rfl) (fun _=>hR43) <|wy 11 rfl (Qp Kw rfl) (fun _=>hR43) ?_
  obtain ⟨d46,hd45,hz⟩:=Qb hz
  refine w1 12 rfl (Q8 0 1 hS rfl hb26 rfl rfl (Ki hk41) (qk7 hk41) rfl (GSearch.u4 (rr hb26) (Lf (GSearch.p4 (rr hb26)) (Ki hk41))) hd45 ?_)
  intro cs45 w44 hb45 ha45 hs45 hS
  have hp47:=hs45
  refine ⟨nB,?_⟩
  obtain ⟨u48,hx49,hz⟩:=Qb hz
  obtain ⟨hx49a,hx49b⟩:=Qw hx49
  refine wy 15 rfl (Ze Jn rfl rfl hx49a hx49b) nB ?_
  obtain ⟨x52,hx53,hz⟩:=Qb hz
  obtain ⟨a54,hx55,hz⟩:=Qb hz
  obtain ⟨d56,hd51,hz⟩:=Qb hz
  have hq58:=(Zo hx53)
  refine w1 16 rfl (Q8 0 1 hS rfl hb45 rfl rfl (rb true:rep M38 _ _) rfl rfl (GSearch.u3 (rr hb45) (vu (k:=1) rfl rfl (Kx (rr hb45)) (Lf (vp (k:=1) rfl rfl (Kx (rr hb45)) hx53) (rb true:rep M38 _ _)) hx55)) hd51 ?_)
  intro cs51 w50 hb51 ha51 hs51 hS
  have hp57:=(ha51 (by omega)).trans hp47
  refine ⟨nB,?_⟩
  refine wd (Qa ?_)
  refine Qh <|Qh <|Qi <|Qc (Qe (.pointer (some ⟨bx1,0,none⟩)) hT_0) <|Qc (Qe (.int .i64 x4) hT_1) <|Qc (Q6 rfl) <|Qc (Qp q07 rfl) <|Qc (Qp qxr rfl) ?_
  obtain ⟨u59,hx60,hz⟩:=Qb hz
  obtain ⟨hx60a,hx60b⟩:=Qw hx60
  refine Qc (Ze q9i rfl rfl hx60a hx60b) ?_
  obtain ⟨x61,hx62,hz⟩:=Qb hz
  obtain ⟨v63,ev63,hv63⟩:=(vp (k:=1) rfl rfl (Jb (GSearch.p0 (rr hb51))) hx62)
  refine Qc (Qm v63 Z4 rfl (hS.bvB 0 rfl) ev63) ?_
  obtain ⟨a64,c64,hv64,_⟩:=Q3 hv63
  refine Qc (Zj Qu (Vv hv64 rfl)) <|Qc (Qe (.int .i64 0) rfl) ?_
  refine Qf (Qa ?_)
  refine Qv ?_
  refine Zw (fun k77 T' w' => ∃ M66 cs68 d69 v70 xs71 l72 y75,Mm.ext w.heap.size (qai [.box bx1 cx1 104,.stk ux1_4 3 1 xsx1_4]) M38 M66∧St w (qai [.box bx1 cx1 104,.stk ux1_4 3 1 xsx1_4]) M66 [.box bx1 cs68 104,.stk v70 3 1 xs71] w'∧rep M66 cs68 d69∧skr M66 v70 xs71 l72∧sl cs68 (0+160) 1=[v70]∧T' 0 = .pointer (some ⟨bx1,0,none⟩)∧T' 1 = .int .i64 x4∧T' 58=v63∧T' 59 = .int .i64 (x61.length:Int)∧T' 60 = .int .i64 y75∧qeb fu x4 rec0 x61 k77 d69 l72 y75=some r) fu ?_ ?_ ?_
  exact ⟨M38,cs51,d56,v41,xs41,l42,(0:Int),(Qg _ _ _),hS,hb51,hk41,hp57,hT_0,hT_1,rfl,rfl,rfl,hz⟩
  rintro T' w' ⟨_,_,_,_,_,_,_,_,_,_,_,_,_,_,_,_,_,hz⟩
  rw [qeb] at hz
  cases hz
  intro k77
  rintro T67 w65 ⟨M66,cs68,d69,v70,xs71,l72,y75,hx79,hS,hb68,hk73,hp74,hT67_0,hT67_1,hT67_58,hT67_59,hT67_60,hz⟩
  replace hv63:=Qz hx79.1 hv63
  replace hE:=Qd hE hx79
  have hF78:=hx79
  rw [qeb] at hz
  obtain ⟨rec76,hrec76⟩ : ∃ f,f=qeb fu x4 rec0 x61 k77:=⟨_,rfl⟩
  rw [← hrec76] at hz
  refine Qh <|Qi <|Qc (Zv hT67_60 hT67_59) ?_
  refine Qf (Qa ?_)
  refine Qh ?_
  refine Qr rfl (fun hc80 => ?_) (fun hc80 => ?_)
  replace hz:=Qn hz hc80
  refine Qt (Qa ?_)
  refine Q0 (fun T' w' => ∃ M82 cs84 d85 v86 xs87 l88,Mm.ext w.heap.size (qai [.box bx1 cx1 104,.stk ux1_4 3 1 xsx1_4]) M66 M82∧St w (qai [.box bx1 cx1 104,.stk ux1_4 3 1 xsx1_4]) M82 [.box bx1 cs84 104,.stk v86 3 1 xs87] w'∧rep M82 cs84 d85∧skr M82 v86 xs87 l88∧sl cs84 (0+160) 1=[v86]∧T' 0 = .pointer (some ⟨bx1,0,none⟩)∧T' 1 = .int .i64 x4∧T' 58=v63∧T' 59 = .int .i64 (x61.length:Int)∧T' 60 = .int .i64 y75∧qhq y75 rec76 d85 l88=some r) ?_ ?_
  have hF92:=Qg w.heap.size (qai [.box bx1 cx1 104,.stk ux1_4 3 1 xsx1_4]) M66
  refine Qv <|Qh <|Qi ?_
  obtain ⟨x94,hx93,hz⟩:=Qb hz
  obtain ⟨b93,o93,c93,p93,hv93,hi93,hj93,hM93,hr93⟩:=Yf hv63 hx93
  replace hr93:rep _ (sl p93 (o93+Int.toNat y75*1) 1) x94:=hr93
  refine Qc (Ys V2 hT67_58 hv93 hT67_60 hi93 hj93) <|Qc (Qm (.int .i64 x94) Yb rfl (hS.bvM hM93) hr93) <|Qc (Qj (.int .i64 x94) rfl) ?_
  refine Qf (Qa ?_)
  refine Qv ?_
  refine Q0 (fun T' w' => ∃ M96 c98,Mm.ext w.heap.size (qai [.box bx1 cx1 104,.stk ux1_4 3 1 xsx1_4]) M66 M96∧St w (qai [.box bx1 cx1 104,.stk ux1_4 3 1 xsx1_4]) M96 [.box bx1 cs68 104,.stk v70 3 1 xs71] w'∧T' 0 = .pointer (some ⟨bx1,0,none⟩)∧T' 1 = .int .i64 x4∧T' 5 = .int .i64 x94∧T' 58=v63∧T' 59 = .int .i64 (x61.length:Int)∧T' 60 = .int .i64 y75∧T' 64 = .bool c98∧qlg x4 rec0 d69 l72 y75 rec76 x94 c98=some r) ?_ ?_
  have hF158:=Qg w.heap.size (qai [.box bx1 cx1 104,.stk ux1_4 3 1 xsx1_4]) M66
  refine Qi <|Qc (Qe (.int .i64 x94) rfl) <|Qc (Zv rfl rfl) <|Qc (Qe (.bool (decide (x94<0))) rfl) ?_
  rcases ic hz with ⟨hc159,hz⟩ | ⟨hc159,hz⟩<;>rw [hc159]
  refine Q2 4 rfl ?_
  refine Qf (Qa ?_)
  exact ⟨M66,true,hF158,hS,hT67_0,hT67_1,rfl,hT67_58,hT67_59,hT67_60,rfl,hz⟩
  refine Qk rfl rfl (Qe (.int .i64 x94) rfl) <|Qk rfl rfl (Vd rfl rfl) <|Q2 2 rfl ?_
  refine Qf (Qa ?_)
  exact ⟨M66,(decide (x94≥32)),hF158,hS,hT67_0,hT67_1,rfl,hT67_58,hT67_59,hT67_60,rfl,hz⟩
  rintro T97 w95 ⟨M96,c98,hx99,hS,hT97_0,hT97_1,hT97_5,hT97_58,hT97_59,hT97_60,hT97_64,hz⟩
  replace hb68:=Rep.mono hx99.1 hb68
  replace hk73:=Zn hx99.1 hk73
  replace hF92:=Qd hF92 hx99
  rw [qlg] at hz
  refine Qr hT97_64 (fun hc100 => ?_) (fun hc100 => ?_)
  replace hz:=Qn hz hc100
  refine Qt (Za ?_)
  refine (Za ?_)
  refine (Qa ?_)
  exact ⟨M96,cs68,d69,v70,xs71,l72,hF92,hS,hb68,hk73,hp74,hT97_0,hT97_1,hT97_58,hT97_59,hT97_60,hz⟩
  replace hz:=Qo hz hc100
  refine Qh <|Qi <|Qc (Qe (.pointer (some ⟨bx1,0,none⟩)) hT97_0) <|Qc (Qe (.int .i64 x94) hT97_5) <|Qc (Q6 rfl) <|Qc (Qp Jc rfl) ?_
  obtain ⟨u101,hx102,hz⟩:=Qb hz
  obtain ⟨hx102a,hx102b⟩:=Qw hx102
  refine Qc (Ze K2 rfl rfl hx102a hx102b) ?_
  obtain ⟨x103,hx104,hz⟩:=Qb hz
  refine Qc (Qm (.int .i64 x103) Yb rfl (hS.bvB 0 rfl) (vp (k:=1) rfl rfl (Vr (rr hb68)) hx104)) <|Qc (Yd rfl rfl) <|Qc (Qj (.bool (x103==0)) rfl) ?_
  refine Qf (Qa ?_)
  refine Qr rfl (fun hc105 => ?_) (fun hc105 => ?_)
  replace hz:=Qn hz hc105
  refine Qh <|Qi <|Qc (Qe (.pointer (some ⟨bx1,0,none⟩)) hT97_0) <|Qc (Qe (.int .i64 x94) hT97_5) ?_
  obtain ⟨r108,hr107,hz⟩:=Qb hz
  refine Qs (Zl (vs:=[.pointer (some ⟨bx1,0,none⟩),.int .i64 x94]) (L:=[.box bx1 cs68 104,.stk v70 3 1 xs71]) (R:=[]) (rv:=(fun M' u L' => ∃ k0 u1 x1,u = .tuple #[]∧L'=[.box bx1 k0 104,.stk u1 3 1 x1]∧rep M' k0 r108.1∧skr M' u1 x1 r108.2∧sl k0 160 1=[u1])) cb56 (Z8 rfl rfl) hS (hS.sel [0,1] (by decide) rfl) (fun hS=>ih hS hb68 hk73 hp74 hr107) ?_)
  rintro u107 M107 w106 L107 hx107 ⟨k0_107,u1_107,x1_107,rfl,hL107,f107_0,f107_1,f107_2⟩ hS
  replace hS:=hS _ hL107
  replace hF92:=Qd hF92 hx107
  refine Qf (Qa ?_)
  refine Yu [.box bx1 k0_107 104] [18] Ya hS fun w109 hS hG110 hR111=>wy 0 rfl (Qe (.pointer (some ⟨bx1,0,none⟩)) hT97_0) (fun _=>hR111) <|wy 1 rfl (Qe (.int .i64 x4) hT97_1) (fun _=>hR111) <|wy 2 rfl (Qe (.pointer (some ⟨bx1,0,none⟩)) hT97_0) (fun _=>hR111) <|wy 3 rfl (Qe (.int .i64 x4) hT97_1) (fun _=>hR111) <|wy 4 rfl (Q6 rfl) (fun _=>hR111) <|wy 5 rfl (Qp Jd rfl) (fun _=>hR111) ?_
  obtain ⟨u112,hx113,hz⟩:=Qb hz
  obtain ⟨hx113a,hx113b⟩:=Qw hx113
  refine wy 6 rfl (Ze K2 rfl rfl hx113a hx113b) (fun _=>hR111) ?_
  obtain ⟨x114,hx115,hz⟩:=Qb hz
  refine Y8 7 rfl (Qm (.int .i64 x114) Yb rfl (Yp 0 rfl) (vp (k:=1) rfl rfl (Y5 (rr f107_0)) hx115)) hR111 <|wy 8 rfl (Qe (.pointer (some ⟨bx1,0,none⟩)) hT97_0) (fun _=>hR111) <|wy 9 rfl (Qe (.int .i64 x94) hT97_5) (fun _=>hR111) <|wy 10 rfl (Q6 rfl) (fun _=>hR111) <|wy 11 rfl (Qp Jd rfl) (fun _=>hR111) ?_
  obtain ⟨u116,hx117,hz⟩:=Qb hz
  obtain ⟨hx117a,hx117b⟩:=Qw hx117
  refine wy 12 rfl (Ze K2 rfl rfl hx117a hx117b) (fun _=>hR111) ?_
  obtain ⟨x118,hx119,hz⟩:=Qb hz
  refine Y8 13 rfl (Qm (.int .i64 x118) Yb rfl (Yp 0 rfl) (vp (k:=1) rfl rfl (Y5 (rr f107_0)) hx119)) hR111 <|wy 14 rfl (q3o rfl rfl) (fun _=>hR111) <|wy 15 rfl (Q6 rfl) (fun _=>hR111) <|wy 16 rfl (Qp Jd rfl) (fun _=>hR111) ?_
  obtain ⟨u120,hx121,hz⟩:=Qb hz
  obtain ⟨hx121a,hx121b⟩:=Qw hx121
  refine wy 17 rfl (Ze K2 rfl rfl hx121a hx121b) (fun _=>hR111) ?_
  obtain ⟨x124,hx125,hz⟩:=Qb hz
  obtain ⟨a126,hx127,hz⟩:=Qb hz
  obtain ⟨d128,hd123,hz⟩:=Qb hz
  have hq130:=(Zo hx125)
  refine w1 18 rfl (Q8 0 1 hS rfl f107_0 rfl rfl (ri (min x114 x118):rep M107 _ _) rfl rfl (GSearch.u2 (rr f107_0) (vu (k:=1) rfl rfl (Y5 (rr f107_0)) (Lf (vp (k:=1) rfl rfl (Y5 (rr f107_0)) hx125) (ri (min x114 x118):rep M107 _ _)) hx127)) hd123 ?_)
  intro cs123 w122 hb123 ha123 hs123 hS
  have hp129:=(ha123 (by omega)).trans f107_2
  refine ⟨nB,?_⟩
  refine wd (Za ?_)
  refine (Za ?_)
  refine (Qa ?_)
  exact ⟨M107,cs123,d128,u1_107,x1_107,r108.2,hF92,hS,hb123,f107_1,hp129,hT97_0,hT97_1,hT97_58,hT97_59,hT97_60,hz⟩
  replace hz:=Qo hz hc105
  refine Qh <|Qi <|Qc (Qe (.pointer (some ⟨bx1,0,none⟩)) hT97_0) <|Qc (Qe (.int .i64 x94) hT97_5) <|Qc (Q6 rfl) <|Qc (Qp qv3 rfl) ?_
  obtain ⟨u131,hx132,hz⟩:=Qb hz
  obtain ⟨hx132a,hx132b⟩:=Qw hx132
  refine Qc (Ze Jn rfl rfl hx132a hx132b) ?_
  obtain ⟨x133,hx134,hz⟩:=Qb hz
  refine Qc (Qm (.bool x133) Jl rfl (hS.bvB 0 rfl) (vp (k:=1) rfl rfl (Kx (rr hb68)) hx134)) <|Qc (Qj (.bool x133) rfl) ?_
  refine Qf (Qa ?_)
  refine Qr rfl (fun hc135 => ?_) (fun hc135 => ?_)
  replace hz:=Qn hz hc135
  refine Yu [.box bx1 cs68 104] [18] Ya hS fun w136 hS hG137 hR138=>wy 0 rfl (Qe (.pointer (some ⟨bx1,0,none⟩)) hT97_0) (fun _=>hR138) <|wy 1 rfl (Qe (.int .i64 x4) hT97_1) (fun _=>hR138) <|wy 2 rfl (Qe (.pointer (some ⟨bx1,0,none⟩)) hT97_0) (fun _=>hR138) <|wy 3 rfl (Qe (.int .i64 x4) hT97_1) (fun _=>hR138) <|wy 4 rfl (Q6 rfl) (fun _=>hR138) <|wy 5 rfl (Qp Jd rfl) (fun _=>hR138) ?_
  obtain ⟨u139,hx140,hz⟩:=Qb hz
  obtain ⟨hx140a,hx140b⟩:=Qw hx140
  refine wy 6 rfl (Ze K2 rfl rfl hx140a hx140b) (fun _=>hR138) ?_
  obtain ⟨x141,hx142,hz⟩:=Qb hz
  refine Y8 7 rfl (Qm (.int .i64 x141) Yb rfl (Yp 0 rfl) (vp (k:=1) rfl rfl (Y5 (rr hb68)) hx142)) hR138 <|wy 8 rfl (Qe (.pointer (some ⟨bx1,0,none⟩)) hT97_0) (fun _=>hR138) <|wy 9 rfl (Qe (.int .i64 x94) hT97_5) (fun _=>hR138) <|wy 10 rfl (Q6 rfl) (fun _=>hR138) <|wy 11 rfl (Qp Jc rfl) (fun _=>hR138) ?_
  obtain ⟨u143,hx144,hz⟩:=Qb hz
  obtain ⟨hx144a,hx144b⟩:=Qw hx144
  refine wy 12 rfl (Ze K2 rfl rfl hx144a hx144b) (fun _=>hR138) ?_
  obtain ⟨x145,hx146,hz⟩:=Qb hz
  refine Y8 13 rfl (Qm (.int .i64 x145) Yb rfl (Yp 0 rfl) (vp (k:=1) rfl rfl (Vr (rr hb68)) hx146)) hR138 <|wy 14 rfl (q3o rfl rfl) (fun _=>hR138) <|wy 15 rfl (Q6 rfl) (fun _=>hR138) <|wy 16 rfl (Qp Jd rfl) (fun _=>hR138) ?_
  obtain ⟨u147,hx148,hz⟩:=Qb hz
  obtain ⟨hx148a,hx148b⟩:=Qw hx148
  refine wy 17 rfl (Ze K2 rfl rfl hx148a hx148b) (fun _=>hR138) ?_
  obtain ⟨x151,hx152,hz⟩:=Qb hz
  obtain ⟨a153,hx154,hz⟩:=Qb hz
  obtain ⟨d155,hd150,hz⟩:=Qb hz
  have hq157:=(Zo hx152)
  refine w1 18 rfl (Q8 0 1 hS rfl hb68 rfl rfl (ri (min x141 x145):rep M96 _ _) rfl rfl (GSearch.u2 (rr hb68) (vu (k:=1) rfl rfl (Y5 (rr hb68)) (Lf (vp (k:=1) rfl rfl (Y5 (rr hb68)) hx152) (ri (min x141 x145):rep M96 _ _)) hx154)) hd150 ?_)
  intro cs150 w149 hb150 ha150 hs150 hS
  have hp156:=(ha150 (by omega)).trans hp74
  refine ⟨nB,?_⟩
  refine wd (Za ?_)
  refine (Za ?_)
  refine (Qa ?_)
  exact ⟨M96,cs150,d155,v70,xs71,l72,hF92,hS,hb150,hk73,hp156,hT97_0,hT97_1,hT97_58,hT97_59,hT97_60,hz⟩
  replace hz:=Qo hz hc135
  refine Qt (Za ?_)
  refine (Za ?_)
  refine (Qa ?_)
  exact ⟨M96,cs68,d69,v70,xs71,l72,hF92,hS,hb68,hk73,hp74,hT97_0,hT97_1,hT97_58,hT97_59,hT97_60,hz⟩
  rintro T83 w81 ⟨M82,cs84,d85,v86,xs87,l88,hx91,hS,hb84,hk89,hp90,hT83_0,hT83_1,hT83_58,hT83_59,hT83_60,hz⟩
  replace hF78:=Qd hF78 hx91
  rw [qhq] at hz
  refine Qi <|Qc (Zz hT83_60 rfl) <|Qc (Qe (.int .i64 (IntKind.wrap .i64 (y75+1))) rfl) ?_
  refine Qf (Qa ?_)
  exact ⟨M82,cs84,d85,v86,xs87,l88,(IntKind.wrap .i64 (y75+1)),hF78,hS,hb84,hk89,hp90,hT83_0,hT83_1,hT83_58,hT83_59,rfl,(by rw [← hrec76];exact hz)⟩
  replace hz:=Qo hz hc80
  refine Zq <|Qy <|Qy <|Zs ?_
  refine (Qa ?_)
  refine Qh <|Qh <|qr0 Ya (by kernel_rfl) hS <|Yv (Qe (.pointer (some ⟨bx1,0,none⟩)) hT67_0) <|Yv (Qe (.int .i64 x4) hT67_1) <|Yv (Q6 rfl) <|Yv (Qp Jd rfl) ?_
  obtain ⟨u160,hx161,hz⟩:=Qb hz
  obtain ⟨hx161a,hx161b⟩:=Qw hx161
  refine Yv (Ze K2 rfl rfl hx161a hx161b) ?_
  obtain ⟨x162,hx163,hz⟩:=Qb hz
  refine Yv (Qm (.int .i64 x162) Yb rfl (q67 (j:=0) rfl) (vp (k:=1) rfl rfl (Y5 (rr hb68)) hx163)) <|Yv (Qe (.pointer (some ⟨bx1,0,none⟩)) hT67_0) <|Yv (Qe (.int .i64 x4) hT67_1) <|Yv (Q6 rfl) <|Yv (Qp Jc rfl) ?_
  obtain ⟨u164,hx165,hz⟩:=Qb hz
  obtain ⟨hx165a,hx165b⟩:=Qw hx165
  refine Yv (Ze K2 rfl rfl hx165a hx165b) ?_
  obtain ⟨x166,hx167,hz⟩:=Qb hz
  refine Yv (Qm (.int .i64 x166) Yb rfl (q67 (j:=0) rfl) (vp (k:=1) rfl rfl (Vr (rr hb68)) hx167)) <|Yv (Yl rfl rfl) <|qxl ?_
  intro w168 hS
  refine (Qa ?_)
  refine Qr rfl (fun hc169 => ?_) (fun hc169 => ?_)
  replace hz:=Qn hz hc169
  cases hz
  exact Q4 (Qq (zal rfl  ⟨_,M66,_,rfl,hE,(hS.sel (H':=[.box bx1 cs68 104,.stk v70 3 1 xs71]) [0,1] (by decide) rfl),cs68,v70,xs71,rfl,rfl,hb68,hk73,hp74⟩))
  replace hz:=Qo hz hc169
  refine Qt (Qa ?_)
  refine Qh <|Qi <|Qc (Qe (.pointer (some ⟨bx1,0,none⟩)) hT67_0) <|Qc (Q6 rfl) <|Qc (Qp Kw rfl) <|Qc (Qm v70 Z4 rfl (hS.bvB 0 rfl) hp74) ?_
  obtain ⟨a170,c170,hv170,_⟩:=Vj hk73
  refine Qc (Zj Qu (Vv hv170 rfl)) <|Qc (Kg rfl rfl) <|Qc (Qj (.int .i64 (IntKind.wrap .i64 ((l72.length:Int)-1))) rfl) ?_
  refine Qf (Qa ?_)
  refine Qh <|Qv ?_
  refine Zw (fun k176 T' w' => ∃ M172 y174,Mm.ext w.heap.size (qai [.box bx1 cx1 104,.stk ux1_4 3 1 xsx1_4]) M66 M172∧St w (qai [.box bx1 cx1 104,.stk ux1_4 3 1 xsx1_4]) M172 [.box bx1 cs68 104,.stk v70 3 1 xs71] w'∧T' 0 = .pointer (some ⟨bx1,0,none⟩)∧T' 1 = .int .i64 x4∧T' 6 = .int .i64 y174∧qfk fu x4 d69 l72 k176 y174=some r) fu ?_ ?_ ?_
  exact ⟨M66,(IntKind.wrap .i64 ((l72.length:Int)-1)),(Qg _ _ _),hS,hT67_0,hT67_1,rfl,hz⟩
  rintro T' w' ⟨_,_,_,_,_,_,_,hz⟩
  rw [qfk] at hz
  cases hz
  intro k176
  rintro T173 w171 ⟨M172,y174,hx178,hS,hT173_0,hT173_1,hT173_6,hz⟩
  replace hb68:=Rep.mono hx178.1 hb68
  replace hk73:=Zn hx178.1 hk73
  replace hE:=Qd hE hx178
  have hF177:=hx178
  rw [qfk] at hz
  obtain ⟨rec175,hrec175⟩ : ∃ f,f=qfk fu x4 d69 l72 k176:=⟨_,rfl⟩
  rw [← hrec175] at hz
  refine Qh <|Qh <|Qi <|Qc (Qe (.pointer (some ⟨bx1,0,none⟩)) hT173_0) <|Qc (Q6 rfl) <|Qc (Qp Kw rfl) <|Qc (Qm v70 Z4 rfl (hS.bvB 0 rfl) hp74) <|Qc (Qe (.int .i64 y174) hT173_6) ?_
  obtain ⟨x180,hx179,hz⟩:=Qb hz
  obtain ⟨b179,o179,c179,hv179,hi179,hj179,hM179,hr179⟩:=qtm (hS.skv (j:=1) rfl hk73) hx179
  replace hr179:rep _ (sl xs71 (o179+Int.toNat y174*1) 1) x180:=hr179
  refine Qc (Ys V2 rfl hv179 rfl hi179 hj179) <|Qc (Qm (.int .i64 x180) Yb rfl (hS.bvK (j:=1) rfl hM179) hr179) <|Qc (Qe (.int .i64 x4) hT173_1) <|Qc (Yl rfl rfl) ?_
  refine Qf (Qa ?_)
  refine Qr rfl (fun hc181 => ?_) (fun hc181 => ?_)
  replace hz:=Qn hz hc181
  refine Qt (Qa ?_)
  refine Qv <|Qi <|Qc (Qe (.int .i64 y174) hT173_6) <|Qc (Kg rfl rfl) <|Qc (Qj (.int .i64 (IntKind.wrap .i64 (y174-1))) rfl) ?_
  refine Qf (Za ?_)
  refine (Qa ?_)
  exact ⟨M172,(IntKind.wrap .i64 (y174-1)),hF177,hS,hT173_0,hT173_1,rfl,(by rw [← hrec175];exact hz)⟩
  replace hz:=Qo hz hc181
  refine Zq <|Qy <|Qy <|Zs ?_
  refine (Qa ?_)
  refine Qh <|Qi <|Qc (Qe (.int .i64 x4) hT173_1) <|Qc (Qj (.int .i64 x4) rfl) ?_
  refine Qf (Qa ?_)
  refine Qh <|Qh <|Qi <|Qc (Qe (.pointer (some ⟨bx1,0,none⟩)) hT173_0) <|Qc (Q6 rfl) <|Qc (Qp Kw rfl) <|Qc (Qm v70 Z4 rfl (hS.bvB 0 rfl) hp74) <|Qc (Qe (.int .i64 y174) hT173_6) ?_
  obtain ⟨l183,hx182,hz⟩:=Qb hz
  obtain ⟨⟨pp182,qq182⟩,hc182,hx182⟩:=Option.map_eq_some_iff.1 hx182
  obtain ⟨a182,c182,hv182,hn182⟩:=Vj hk73
  refine Qc (qs2 (l:=(some y174)) (h:=none) V2 rfl hv182 (evs rfl) evn hc182 hn182) ?_
  have hk182:skv M172 v70 (qj2 v70 1 pp182 qq182) xs71 l183:=(show _=l183 from hx182) ▸ q1f (hS.skv (j:=1) rfl hk73) hc182
  obtain ⟨a184,c184,hv184,_⟩:=qtn hk182
  refine Qc (Zj Qu (Vv hv184 rfl)) <|Qc (Qe (.int .i64 0) rfl) ?_
  refine Qf (Qa ?_)
  refine Qv ?_
  refine Zw (fun k191 T' w' => ∃ M186 y188 y189,Mm.ext w.heap.size (qai [.box bx1 cx1 104,.stk ux1_4 3 1 xsx1_4]) M172 M186∧St w (qai [.box bx1 cx1 104,.stk ux1_4 3 1 xsx1_4]) M186 [.box bx1 cs68 104,.stk v70 3 1 xs71] w'∧T' 0 = .pointer (some ⟨bx1,0,none⟩)∧T' 6 = .int .i64 y174∧T' 7 = .int .i64 y188∧T' 162=(qj2 v70 1 pp182 qq182)∧T' 163 = .int .i64 (l183.length:Int)∧T' 164 = .int .i64 y189∧qea fu d69 l72 y174 l183 k191 y188 y189=some r) fu ?_ ?_ ?_
  exact ⟨M172,x4,(0:Int),(Qg _ _ _),hS,hT173_0,hT173_6,rfl,rfl,rfl,rfl,hz⟩
  rintro T' w' ⟨_,_,_,_,_,_,_,_,_,_,_,hz⟩
  rw [qea] at hz
  cases hz
  intro k191
  rintro T187 w185 ⟨M186,y188,y189,hx193,hS,hT187_0,hT187_6,hT187_7,hT187_162,hT187_163,hT187_164,hz⟩
  replace hb68:=Rep.mono hx193.1 hb68
  replace hk73:=Zn hx193.1 hk73
  replace hk182:=skv.mono hx193.1 hk182
  replace hE:=Qd hE hx193
  have hF192:=hx193
  rw [qea] at hz
  obtain ⟨rec190,hrec190⟩ : ∃ f,f=qea fu d69 l72 y174 l183 k191:=⟨_,rfl⟩
  rw [← hrec190] at hz
  refine Qh <|Qi <|Qc (Zv hT187_164 hT187_163) ?_
  refine Qf (Qa ?_)
  refine Qh ?_
  refine Qr rfl (fun hc194 => ?_) (fun hc194 => ?_)
  replace hz:=Qn hz hc194
  refine Qt (Qa ?_)
  refine Qh <|Qv <|Qh <|Qi ?_
  obtain ⟨x196,hx195,hz⟩:=Qb hz
  obtain ⟨b195,o195,c195,hv195,hi195,hj195,hM195,hr195⟩:=qtm hk182 hx195
  replace hr195:rep _ (sl xs71 (o195+Int.toNat y189*1) 1) x196:=hr195
  refine Qc (Ys V2 hT187_162 hv195 hT187_164 hi195 hj195) <|Qc (Qm (.int .i64 x196) Yb rfl (hS.bvK (j:=1) rfl hM195) hr195) <|Qc (Qj (.int .i64 x196) rfl) ?_
  refine Qf (Qa ?_)
  refine Qi <|Qc (Qe (.int .i64 y188) hT187_7) <|Qc (Qe (.int .i64 x196) rfl) <|Qc (q3o rfl rfl) <|Qc (Qj (.int .i64 (min y188 x196)) rfl) ?_
  refine Qf (Za ?_)
  refine (Qa ?_)
  refine Qi <|Qc (Zz hT187_164 rfl) <|Qc (Qe (.int .i64 (IntKind.wrap .i64 (y189+1))) rfl) ?_
  refine Qf (Qa ?_)
  exact ⟨M186,(min y188 x196),(IntKind.wrap .i64 (y189+1)),hF192,hS,hT187_0,hT187_6,rfl,hT187_162,hT187_163,rfl,(by rw [← hrec190];exact hz)⟩
  replace hz:=Qo hz hc194
  refine Zq <|Qy <|Qy <|Zs ?_
  refine (Qa ?_)
  refine Qh <|Qh <|Qi <|Qc (Qe (.pointer (some ⟨bx1,0,none⟩)) hT187_0) <|Qc (Q6 rfl) <|Qc (Qp Kw rfl) <|Qc (Qm v70 Z4 rfl (hS.bvB 0 rfl) hp74) <|Qc (Qe (.int .i64 y174) hT187_6) ?_
  obtain ⟨l198,hx197,hz⟩:=Qb hz
  obtain ⟨⟨pp197,qq197⟩,hc197,hx197⟩:=Option.map_eq_some_iff.1 hx197
  obtain ⟨a197,c197,hv197,hn197⟩:=Vj hk73
  refine Qc (qs2 (l:=(some y174)) (h:=none) V2 rfl hv197 (evs rfl) evn hc197 hn197) ?_
  have hk197:skv M186 v70 (qj2 v70 1 pp197 qq197) xs71 l198:=(show _=l198 from hx197) ▸ q1f (hS.skv (j:=1) rfl hk73) hc197
  obtain ⟨a199,c199,hv199,_⟩:=qtn hk197
  refine Qc (Zj Qu (Vv hv199 rfl)) <|Qc (Qe (.int .i64 0) rfl) ?_
  refine Qf (Qa ?_)
  refine Qv ?_
  refine Zw (fun k208 T' w' => ∃ M201 cs203 d204 y206,Mm.ext w.heap.size (qai [.box bx1 cx1 104,.stk ux1_4 3 1 xsx1_4]) M186 M201∧St w (qai [.box bx1 cx1 104,.stk ux1_4 3 1 xsx1_4]) M201 [.box bx1 cs203 104,.stk v70 3 1 xs71] w'∧rep M201 cs203 d204∧sl cs203 (0+160) 1=[v70]∧T' 0 = .pointer (some ⟨bx1,0,none⟩)∧T' 6 = .int .i64 y174∧T' 7 = .int .i64 y188∧T' 177=(qj2 v70 1 pp197 qq197)∧T' 178 = .int .i64 (l198.length:Int)∧T' 179 = .int .i64 y206∧qd9 l72 y174 y188 l198 k208 d204 y206=some r) fu ?_ ?_ ?_
  exact ⟨M186,cs68,d69,(0:Int),(Qg _ _ _),hS,hb68,hp74,hT187_0,hT187_6,hT187_7,rfl,rfl,rfl,hz⟩
  rintro T' w' ⟨_,_,_,_,_,_,_,_,_,_,_,_,_,_,hz⟩
  rw [qd9] at hz
  cases hz
  intro k208
  rintro T202 w200 ⟨M201,cs203,d204,y206,hx210,hS,hb203,hp205,hT202_0,hT202_6,hT202_7,hT202_177,hT202_178,hT202_179,hz⟩
  replace hk73:=Zn hx210.1 hk73
  replace hk197:=skv.mono hx210.1 hk197
  replace hE:=Qd hE hx210
  have hF209:=hx210
  rw [qd9] at hz
  obtain ⟨rec207,hrec207⟩ : ∃ f,f=qd9 l72 y174 y188 l198 k208:=⟨_,rfl⟩
  rw [← hrec207] at hz
  refine Qh <|Qi <|Qc (Zv hT202_179 hT202_178) ?_
  refine Qf (Qa ?_)
  refine Qh ?_
  refine Qr rfl (fun hc211 => ?_) (fun hc211 => ?_)
  replace hz:=Qn hz hc211
  refine Qt (Qa ?_)
  refine Qh <|Qv <|Qh <|Qi ?_
  obtain ⟨x213,hx212,hz⟩:=Qb hz
  obtain ⟨b212,o212,c212,hv212,hi212,hj212,hM212,hr212⟩:=qtm hk197 hx212
  replace hr212:rep _ (sl xs71 (o212+Int.toNat y206*1) 1) x213:=hr212
  refine Qc (Ys V2 hT202_177 hv212 hT202_179 hi212 hj212) <|Qc (Qm (.int .i64 x213) Yb rfl (hS.bvK (j:=1) rfl hM212) hr212) <|Qc (Qj (.int .i64 x213) rfl) ?_
  refine Qf (Qa ?_)
  refine Yu [] [] Ya hS fun w214 hS hG215 hR216=>wy 0 rfl (Qe (.pointer (some ⟨bx1,0,none⟩)) hT202_0) (fun _=>hR216) <|wy 1 rfl (Qe (.int .i64 x213) rfl) (fun _=>hR216) <|wy 2 rfl (Qe (.pointer (some ⟨bx1,0,none⟩)) hT202_0) (fun _=>hR216) <|wy 3 rfl (Qe (.int .i64 x213) rfl) (fun _=>hR216) <|wy 4 rfl (Qe (.int .i64 y188) hT202_7) (fun _=>hR216) <|wy 5 rfl (Q6 rfl) (fun _=>hR216) <|wy 6 rfl (Qp qot rfl) (fun _=>hR216) ?_
  obtain ⟨u217,hx218,hz⟩:=Qb hz
  obtain ⟨hx218a,hx218b⟩:=Qw hx218
  refine wy 7 rfl (Ze K2 rfl rfl hx218a hx218b) (fun _=>hR216) <|wy 9 rfl (Q6 rfl) (fun _=>hR216) <|wy 10 rfl (Qp qv3 rfl) (fun _=>hR216) ?_
  obtain ⟨x221,hx222,hz⟩:=Qb hz
  obtain ⟨a223,hx224,hz⟩:=Qb hz
  obtain ⟨d225,hd220,hz⟩:=Qb hz
  have hq227:=(Zo hx222)
  refine w1 8 rfl (Q8 0 1 hS rfl hb203 rfl rfl (ri y188:rep M201 _ _) rfl rfl (GSearch.u5 (rr hb203) (vu (k:=1) rfl rfl (Kj (rr hb203)) (Lf (vp (k:=1) rfl rfl (Kj (rr hb203)) hx222) (ri y188:rep M201 _ _)) hx224)) hd220 ?_)
  intro cs220 w219 hb220 ha220 hs220 hS
  have hp226:=(ha220 (by omega)).trans hp205
  refine Yq hS hG215 fun hR228 => ?_
  obtain ⟨u229,hx230,hz⟩:=Qb hz
  obtain ⟨hx230a,hx230b⟩:=Qw hx230
  refine wy 11 rfl (Ze Jn rfl rfl hx230a hx230b) (fun _=>hR228) ?_
  obtain ⟨x233,hx234,hz⟩:=Qb hz
  obtain ⟨a235,hx236,hz⟩:=Qb hz
  obtain ⟨d237,hd232,hz⟩:=Qb hz
  have hq239:=(Zo hx234)
  refine w1 12 rfl (Q8 0 1 hS rfl hb220 rfl rfl (rb false:rep M201 _ _) rfl rfl (GSearch.u3 (rr hb220) (vu (k:=1) rfl rfl (Kx (rr hb220)) (Lf (vp (k:=1) rfl rfl (Kx (rr hb220)) hx234) (rb false:rep M201 _ _)) hx236)) hd232 ?_)
  intro cs232 w231 hb232 ha232 hs232 hS
  have hp238:=(ha232 (by omega)).trans hp226
  refine Yq hS hG215 fun hR240 => ?_
  refine wd (Za ?_)
  refine (Qa ?_)
  refine Qi <|Qc (Zz hT202_179 rfl) <|Qc (Qe (.int .i64 (IntKind.wrap .i64 (y206+1))) rfl) ?_
  refine Qf (Qa ?_)
  exact ⟨M201,cs232,d237,(IntKind.wrap .i64 (y206+1)),hF209,hS,hb232,hp238,hT202_0,hT202_6,hT202_7,hT202_177,hT202_178,rfl,(by rw [← hrec207];exact hz)⟩
  replace hz:=Qo hz hc211
  refine Zq <|Qy <|Qy <|Zs ?_
  refine (Qa ?_)
  refine Qi <|Qc (Qe (.pointer (some ⟨bx1,0,none⟩)) hT202_0) <|Qc (Qe (.pointer (some ⟨bx1,0,none⟩)) hT202_0) <|Qc (Q6 rfl) <|Qc (Qp Kw rfl) <|Qc (Qm v70 Z4 rfl (hS.bvB 0 rfl) hp205) <|Qc (Qe (.int .i64 y174) hT202_6) ?_
  obtain ⟨l242,hx241,hz⟩:=Qb hz
  obtain ⟨⟨pp241,qq241⟩,hc241,hx241⟩:=Option.map_eq_some_iff.1 hx241
  obtain ⟨a241,c241,hv241,hn241⟩:=Vj hk73
  refine Qc (qs2 (l:=none) (h:=(some y174)) V2 rfl hv241 evn (evs rfl) hc241 hn241) ?_
  obtain ⟨hk241,hS⟩:=hS.pop (j:=1) rfl hk73 hc241
  rw [show (List.drop pp241 (List.take qq241 l72))=l242 from hx241] at hk241
  replace hk241:skr M201 (qj2 v70 1 pp241 qq241) (List.take (qq241*1) xs71) l242:=hk241
  refine Qc (Q6 rfl) <|Qc (Qp Kw rfl) ?_
  obtain ⟨d245,hd244,hz⟩:=Qb hz
  refine Qs (Q8 0 1 hS rfl hb203 rfl rfl (Ki hk241) (qk7 hk241) rfl (GSearch.u4 (rr hb203) (Lf (GSearch.p4 (rr hb203)) (Ki hk241))) hd244 ?_)
  intro cs244 w243 hb244 ha244 hs244 hS
  have hp246:=hs244
  cases hz
  exact Qf (qxk (zal rfl  ⟨_,M201,_,rfl,hE,(hS.sel (H':=[.box bx1 cs244 104,.stk (qj2 v70 1 pp241 qq241) 3 1 (List.take (qq241*1) xs71)]) [0,1] (by decide) rfl),cs244,(qj2 v70 1 pp241 qq241),(List.take (qq241*1) xs71),rfl,rfl,hb244,hk241,hp246⟩))
theorem q4d {M:Mm} {w:World} {bx1:Nat} {cx1:List Value} {ux1_4:Value} {xsx1_4:List Value} {x1:GSearch} {l3:List Int} {x4:Int} {fu:Nat} {r:GSearch × (List Int)} (hS:St w (qai [.box bx1 cx1 104,.stk ux1_4 3 1 xsx1_4]) M [.box bx1 cx1 104,.stk ux1_4 3 1 xsx1_4] w) (hcx1:rep M cx1 x1) (hkx1_4:skr M ux1_4 xsx1_4 l3) (hpx1_4:sl cx1 160 1=[ux1_4]) (hz:q1n fu x1 l3 x4=some r) :
    Calls Try.prog 56 #[.pointer (some ⟨bx1,0,none⟩),.int .i64 x4] w (qcv M w [.box bx1 cx1 104,.stk ux1_4 3 1 xsx1_4] (fun M' u L' => ∃ k0 u1 x1,u = .tuple #[]∧L'=[.box bx1 k0 104,.stk u1 3 1 x1]∧rep M' k0 r.1∧skr M' u1 x1 r.2∧sl k0 160 1=[u1])) :=
  q1o fu fu hS hcx1 hkx1_4 hpx1_4 hz
def qo1 (y9:Int) (rec10:Int→Option Bool):Option Bool :=
 rec10 (IntKind.wrap .i64 (y9+1))
def qr7 (y33:Int) (rec34:Int→Option Bool):Option Bool :=
 rec34 (IntKind.wrap .i64 (y33+1))
def qkt (y33:Int) (rec34:Int→Option Bool) (c49:Bool):Option Bool :=
 (bif c49 then
 some false
 else
 qr7 y33 rec34)
def qc5 (x1:GSearch) (x2:Int) (x3:Vector Bool 32) (y9:Int) (rec10:Int→Option Bool) (x26:List Int):Nat→Int→Option Bool
 | 0,_=>none
 | n+1,y33 =>
 (bif decide (y33<(x26.length:Int)) then
 (idx x26 y33).bind fun x45 =>
 (bif decide (x45≥0) then
 (bif decide (x45<32) then
 (inR x45 32).bind fun _ =>
 (qa7 x1.ring x45).bind fun x57 =>
 (bif x57 != x2 then
 (inR x45 32).bind fun _ =>
 (qa7 x3 x45).bind fun x62 =>
 qkt y33 (qc5 x1 x2 x3 y9 rec10 x26 n) (!x62)
 else
 qkt y33 (qc5 x1 x2 x3 y9 rec10 x26 n) false)
 else
 qkt y33 (qc5 x1 x2 x3 y9 rec10 x26 n) false)
 else
 qkt y33 (qc5 x1 x2 x3 y9 rec10 x26 n) false)
 else
 qo1 y9 rec10)
def qr8 (fu:Nat) (x1:GSearch) (x2:Int) (x3:Vector Bool 32) (y9:Int) (rec10:Int→Option Bool):Option Bool :=
 (inR y9 32).bind fun _ =>
 (qa7 x1.g.deps y9).bind fun x26 =>
 qc5 x1 x2 x3 y9 rec10 x26 fu 0
def qo2 (fu:Nat) (x1:GSearch) (x2:Int) (x3:Vector Bool 32) (y9:Int) (rec10:Int→Option Bool) (c68:Bool):Option Bool :=
 (bif c68 then
 qo1 y9 rec10
 else
 qr8 fu x1 x2 x3 y9 rec10)
def qem (fu:Nat) (x1:GSearch) (x2:Int) (x3:Vector Bool 32):Nat→Int→Option Bool
 | 0,_=>none
 | n+1,y9 =>
 (bif decide (y9<32) then
 (inR y9 32).bind fun _ =>
 (qa7 x1.mark_ y9).bind fun x74 =>
 (bif x74==0 then
 qo2 fu x1 x2 x3 y9 (qem fu x1 x2 x3 n) true
 else
 (inR y9 32).bind fun _ =>
 (qa7 x1.ring y9).bind fun x79 =>
 qo2 fu x1 x2 x3 y9 (qem fu x1 x2 x3 n) (x79 != x2))
 else
 some true)
def q4e (fu:Nat) (x1:GSearch) (x2:Int) (x3:Vector Bool 32):Option Bool :=
 qem fu x1 x2 x3 fu 0
theorem q6n {M:Mm} {w:World} {bx1:Nat} {cx1:List Value} {cx3:List Value} {x1:GSearch} {x2:Int} {x3:Vector Bool 32} {fu:Nat} {r:Bool} (hS:St w (qai [.box bx1 cx1 104]) M [.box bx1 cx1 104] w) (hcx1:rep M cx1 x1) (hcx3:rep M cx3 x3) (hz:q4e fu x1 x2 x3=some r) :
    Calls Try.prog 57 #[.pointer (some ⟨bx1,0,none⟩),.int .i64 x2,.agg cx3.toArray] w (qcv M w [.box bx1 cx1 104] (fun M' u L'=>u = .bool r∧L'=[.box bx1 cx1 104])):=by
 refine Zh Try.func57 rfl 66 rfl rfl (by kernel_rfl) fun T hT => ?_
 have hT_0:T 0 = .pointer (some ⟨bx1,0,none⟩):=hT 0
 have hT_1:T 1 = .int .i64 x2:=hT 1
 have hT_2:T 2 = .agg cx3.toArray:=hT 2
 clear hT
 have hE:=Qg w.heap.size (qai [.box bx1 cx1 104]) M
 rw [q4e] at hz
 refine Qh <|Qi ?_
 refine Qs (Yo (v := .agg cx3.toArray) (cs:=cx3) hT_2 rfl hS ?_)
 intro b5 w4 hb5 hS
 refine Qc (Qj (.bool false) rfl) ?_
 refine Qf (Qa ?_)
 refine Qh <|Qh <|Qi <|Qc (Qe (.int .i64 0) rfl) ?_
 refine Qf (Qa ?_)
 refine Qv ?_
 refine Zw (fun k11 T' w' => ∃ M7 y9,Mm.ext w.heap.size (qai [.box bx1 cx1 104]) M M7∧St w (qai [.box bx1 cx1 104]) M7 [.box b5 cx3 58,.box bx1 cx1 104] w'∧T' 0 = .pointer (some ⟨bx1,0,none⟩)∧T' 1 = .int .i64 x2∧T' 5 = .pointer (some ⟨b5,0,none⟩)∧T' 10 = .int .i64 y9∧qem fu x1 x2 x3 k11 y9=some r) fu ?_ ?_ ?_
 exact ⟨M,(0:Int),(Qg _ _ _),hS,hT_0,hT_1,rfl,rfl,hz⟩
 rintro T' w' ⟨_,_,_,_,_,_,_,_,hz⟩
 rw [qem] at hz
 cases hz
 intro k11
 rintro T8 w6 ⟨M7,y9,hx13,hS,hT8_0,hT8_1,hT8_5,hT8_10,hz⟩
 replace hcx1:=Rep.mono hx13.1 hcx1
 replace hcx3:=Rep.mono hx13.1 hcx3
 replace hE:=Qd hE hx13
 have hF12:=hx13
 rw [qem] at hz
 obtain ⟨rec10,hrec10⟩ : ∃ f,f=qem fu x1 x2 x3 k11:=⟨_,rfl⟩
 rw [← hrec10] at hz
 refine Qh <|Qi <|Qc (Zv hT8_10 rfl) ?_
 refine Qf (Qa ?_)
 refine Qh ?_
 refine Qr rfl (fun hc14 => ?_) (fun hc14 => ?_)
 replace hz:=Qn hz hc14
 refine Qt (Qa ?_)
 refine Q0 (fun T' w' => ∃ M16,Mm.ext w.heap.size (qai [.box bx1 cx1 104]) M7 M16∧St w (qai [.box bx1 cx1 104]) M16 [.box b5 cx3 58,.box bx1 cx1 104] w'∧T' 0 = .pointer (some ⟨bx1,0,none⟩)∧T' 1 = .int .i64 x2∧T' 5 = .pointer (some ⟨b5,0,none⟩)∧T' 10 = .int .i64 y9∧qo1 y9 rec10=some r) ?_ ?_
 have hF19:=Qg w.heap.size (qai [.box bx1 cx1 104]) M7
 refine Qv <|Qh <|Qi <|Qc (Qe (.int .i64 y9) hT8_10) <|Qc (Qj (.int .i64 y9) rfl) ?_
 refine Qf (Qa ?_)
 refine Q0 (fun T' w' => ∃ M21,Mm.ext w.heap.size (qai [.box bx1 cx1 104]) M7 M21∧St w (qai [.box bx1 cx1 104]) M21 [.box b5 cx3 58,.box bx1 cx1 104] w'∧T' 0 = .pointer (some ⟨bx1,0,none⟩)∧T' 1 = .int .i64 x2∧T' 5 = .pointer (some ⟨b5,0,none⟩)∧T' 7 = .int .i64 y9∧T' 10 = .int .i64 y9∧qr8 fu x1 x2 x3 y9 rec10=some r) ?_ ?_
 have hF64:=Qg w.heap.size (qai [.box bx1 cx1 104]) M7
 refine Q0 (fun T' w' => ∃ M66 c68,Mm.ext w.heap.size (qai [.box bx1 cx1 104]) M7 M66∧St w (qai [.box bx1 cx1 104]) M66 [.box b5 cx3 58,.box bx1 cx1 104] w'∧T' 0 = .pointer (some ⟨bx1,0,none⟩)∧T' 1 = .int .i64 x2∧T' 5 = .pointer (some ⟨b5,0,none⟩)∧T' 7 = .int .i64 y9∧T' 10 = .int .i64 y9∧T' 29 = .bool c68∧qo2 fu x1 x2 x3 y9 rec10 c68=some r) ?_ ?_
 have hF71:=Qg w.heap.size (qai [.box bx1 cx1 104]) M7
 refine Qi <|Qc (Qe (.pointer (some ⟨bx1,0,none⟩)) hT8_0) <|Qc (Qe (.int .i64 y9) rfl) <|Qc (Q6 rfl) <|Qc (Qp Jc rfl) ?_
 obtain ⟨u72,hx73,hz⟩:=Qb hz
 obtain ⟨hx73a,hx73b⟩:=Qw hx73
 refine Qc (Ze K2 rfl rfl hx73a hx73b) ?_
 obtain ⟨x74,hx75,hz⟩:=Qb hz
 refine Qc (Qm (.int .i64 x74) Yb rfl (hS.bvB 1 rfl) (vp (k:=1) rfl rfl (Vr (rr hcx1)) hx75)) <|Qc (Yd rfl rfl) <|Qc (Qe (.bool (x74==0)) rfl) ?_
 rcases ic hz with ⟨hc76,hz⟩ | ⟨hc76,hz⟩<;>rw [hc76]
 refine Q2 9 rfl ?_
 refine Qf (Qa ?_)
 exact ⟨M7,true,hF71,hS,hT8_0,hT8_1,hT8_5,rfl,hT8_10,rfl,hz⟩
 refine Qk rfl rfl (Qe (.pointer (some ⟨bx1,0,none⟩)) hT8_0) <|Qk rfl rfl (Qe (.int .i64 y9) rfl) <|Qk rfl rfl (Q6 rfl) <|Qk rfl rfl (Qp qot rfl) ?_
 obtain ⟨u77,hx78,hz⟩:=Qb hz
 obtain ⟨hx78a,hx78b⟩:=Qw hx78
 refine Qk rfl rfl (Ze K2 rfl rfl hx78a hx78b) ?_
 obtain ⟨x79,hx80,hz⟩:=Qb hz
 refine Qk rfl rfl (Qm (.int .i64 x79) Yb rfl (hS.bvB 1 rfl) (vp (k:=1) rfl rfl (Kj (rr hcx1)) hx80)) <|Qk rfl rfl (Qe (.int .i64 x2) hT8_1) <|Qk rfl rfl (Yl rfl rfl) <|Qc (Zi (.bool (x79 != x2)) rfl rfl) ?_
 refine Qf (Qa ?_)
 exact ⟨M7,(x79 != x2),hF71,hS,hT8_0,hT8_1,hT8_5,rfl,hT8_10,rfl,hz⟩
 rintro T67 w65 ⟨M66,c68,hx69,hS,hT67_0,hT67_1,hT67_5,hT67_7,hT67_10,hT67_29,hz⟩
 replace hF19:=Qd hF19 hx69
 replace hF64:=Qd hF64 hx69
 rw [qo2] at hz
 refine Qr hT67_29 (fun hc70 => ?_) (fun hc70 => ?_)
 replace hz:=Qn hz hc70
 refine Zq <|Qy <|Zs ?_
 refine (Qa ?_)
 exact ⟨M66,hF19,hS,hT67_0,hT67_1,hT67_5,hT67_10,hz⟩
 replace hz:=Qo hz hc70
 refine Qt (Qa ?_)
 exact ⟨M66,hF64,hS,hT67_0,hT67_1,hT67_5,hT67_7,hT67_10,hz⟩
 rintro T22 w20 ⟨M21,hx23,hS,hT22_0,hT22_1,hT22_5,hT22_7,hT22_10,hz⟩
 replace hcx1:=Rep.mono hx23.1 hcx1
 replace hcx3:=Rep.mono hx23.1 hcx3
 replace hE:=Qd hE hx23
 replace hF19:=Qd hF19 hx23
 rw [qr8] at hz
 refine Qh <|Qi <|Qc (Qe (.pointer (some ⟨bx1,0,none⟩)) hT22_0) <|Qc (Qe (.int .i64 y9) hT22_7) <|Qc (Q6 rfl) <|Qc (Qp q07 rfl) <|Qc (Qp qxr rfl) ?_
 obtain ⟨u24,hx25,hz⟩:=Qb hz
 obtain ⟨hx25a,hx25b⟩:=Qw hx25
 refine Qc (Ze q9i rfl rfl hx25a hx25b) ?_
 obtain ⟨x26,hx27,hz⟩:=Qb hz
 obtain ⟨v28,ev28,hv28⟩:=(vp (k:=1) rfl rfl (Jb (GSearch.p0 (rr hcx1))) hx27)
 refine Qc (Qm v28 Z4 rfl (hS.bvB 1 rfl) ev28) ?_
 obtain ⟨a29,c29,hv29,_⟩:=Q3 hv28
 refine Qc (Zj Qu (Vv hv29 rfl)) <|Qc (Qe (.int .i64 0) rfl) ?_
 refine Qf (Qa ?_)
 refine Qv ?_
 refine Zw (fun k35 T' w' => ∃ M31 y33,Mm.ext w.heap.size (qai [.box bx1 cx1 104]) M21 M31∧St w (qai [.box bx1 cx1 104]) M31 [.box b5 cx3 58,.box bx1 cx1 104] w'∧T' 0 = .pointer (some ⟨bx1,0,none⟩)∧T' 1 = .int .i64 x2∧T' 5 = .pointer (some ⟨b5,0,none⟩)∧T' 10 = .int .i64 y9∧T' 36=v28∧T' 37 = .int .i64 (x26.length:Int)∧T' 38 = .int .i64 y33∧qc5 x1 x2 x3 y9 rec10 x26 k35 y33=some r) fu ?_ ?_ ?_
 exact ⟨M21,(0:Int),(Qg _ _ _),hS,hT22_0,hT22_1,hT22_5,hT22_10,rfl,rfl,rfl,hz⟩
 rintro T' w' ⟨_,_,_,_,_,_,_,_,_,_,_,hz⟩
 rw [qc5] at hz
 cases hz
 intro k35
 rintro T32 w30 ⟨M31,y33,hx37,hS,hT32_0,hT32_1,hT32_5,hT32_10,hT32_36,hT32_37,hT32_38,hz⟩
 replace hcx1:=Rep.mono hx37.1 hcx1
 replace hcx3:=Rep.mono hx37.1 hcx3
 replace hv28:=Qz hx37.1 hv28
 replace hE:=Qd hE hx37
 replace hF19:=Qd hF19 hx37
 have hF36:=hx37
 rw [qc5] at hz
 obtain ⟨rec34,hrec34⟩ : ∃ f,f=qc5 x1 x2 x3 y9 rec10 x26 k35:=⟨_,rfl⟩
 rw [← hrec34] at hz
 refine Qh <|Qi <|Qc (Zv hT32_38 hT32_37) ?_
 refine Qf (Qa ?_)
 refine Qh ?_
 refine Qr rfl (fun hc38 => ?_) (fun hc38 => ?_)
 replace hz:=Qn hz hc38
 refine Qt (Qa ?_)
 refine Q0 (fun T' w' => ∃ M40,Mm.ext w.heap.size (qai [.box bx1 cx1 104]) M31 M40∧St w (qai [.box bx1 cx1 104]) M40 [.box b5 cx3 58,.box bx1 cx1 104] w'∧T' 0 = .pointer (some ⟨bx1,0,none⟩)∧T' 1 = .int .i64 x2∧T' 5 = .pointer (some ⟨b5,0,none⟩)∧T' 10 = .int .i64 y9∧T' 36=v28∧T' 37 = .int .i64 (x26.length:Int)∧T' 38 = .int .i64 y33∧qr7 y33 rec34=some r) ?_ ?_
 have hF43:=Qg w.heap.size (qai [.box bx1 cx1 104]) M31
 refine Qv <|Qh <|Qi ?_
 obtain ⟨x45,hx44,hz⟩:=Qb hz
 obtain ⟨b44,o44,c44,p44,hv44,hi44,hj44,hM44,hr44⟩:=Yf hv28 hx44
 replace hr44:rep _ (sl p44 (o44+Int.toNat y33*1) 1) x45:=hr44
 refine Qc (Ys V2 hT32_36 hv44 hT32_38 hi44 hj44) <|Qc (Qm (.int .i64 x45) Yb rfl (hS.bvM hM44) hr44) <|Qc (Qj (.int .i64 x45) rfl) ?_
 refine Qf (Qa ?_)
 refine Q0 (fun T' w' => ∃ M47 c49,Mm.ext w.heap.size (qai [.box bx1 cx1 104]) M31 M47∧St w (qai [.box bx1 cx1 104]) M47 [.box b5 cx3 58,.box bx1 cx1 104] w'∧T' 0 = .pointer (some ⟨bx1,0,none⟩)∧T' 1 = .int .i64 x2∧T' 5 = .pointer (some ⟨b5,0,none⟩)∧T' 10 = .int .i64 y9∧T' 36=v28∧T' 37 = .int .i64 (x26.length:Int)∧T' 38 = .int .i64 y33∧T' 63 = .bool c49∧qkt y33 rec34 c49=some r) ?_ ?_
 have hF52:=Qg w.heap.size (qai [.box bx1 cx1 104]) M31
 refine Qi <|Qc (Qe (.int .i64 x45) rfl) <|Qc (Vd rfl rfl) <|Qc (Qe (.bool (decide (x45≥0))) rfl) ?_
 rcases ic hz with ⟨hc53,hz⟩ | ⟨hc53,hz⟩<;>rw [hc53]
 refine Qk rfl rfl (Qe (.int .i64 x45) rfl) <|Qk rfl rfl (Zv rfl rfl) <|Q2 2 rfl ?_
 rcases ic hz with ⟨hc54,hz⟩ | ⟨hc54,hz⟩<;>rw [hc54]
 refine Qk rfl rfl (Qe (.pointer (some ⟨bx1,0,none⟩)) hT32_0) <|Qk rfl rfl (Qe (.int .i64 x45) rfl) <|Qk rfl rfl (Q6 rfl) <|Qk rfl rfl (Qp qot rfl) ?_
 obtain ⟨u55,hx56,hz⟩:=Qb hz
 obtain ⟨hx56a,hx56b⟩:=Qw hx56
 refine Qk rfl rfl (Ze K2 rfl rfl hx56a hx56b) ?_
 obtain ⟨x57,hx58,hz⟩:=Qb hz
 refine Qk rfl rfl (Qm (.int .i64 x57) Yb rfl (hS.bvB 1 rfl) (vp (k:=1) rfl rfl (Kj (rr hcx1)) hx58)) <|Qk rfl rfl (Qe (.int .i64 x2) hT32_1) <|Qk rfl rfl (Yl rfl rfl) <|Q2 2 rfl ?_
 rcases ic hz with ⟨hc59,hz⟩ | ⟨hc59,hz⟩<;>rw [hc59]
 refine Qk rfl rfl (Qe (.int .i64 x45) rfl) ?_
 obtain ⟨u60,hx61,hz⟩:=Qb hz
 obtain ⟨hx61a,hx61b⟩:=Qw hx61
 refine Qk rfl rfl (Ze Jn hT32_5 rfl hx61a hx61b) ?_
 obtain ⟨x62,hx63,hz⟩:=Qb hz
 refine Qk rfl rfl (Qm (.bool x62) Jl rfl (hS.bvB 0 rfl) (vp (k:=1) rfl rfl (rr hcx3) hx63)) <|Qk rfl rfl (Ye rfl) <|Qc (Zy (.bool (!x62)) rfl rfl) ?_
 refine Qf (Qa ?_)
 exact ⟨M31,(!x62),hF52,hS,hT32_0,hT32_1,hT32_5,hT32_10,hT32_36,hT32_37,hT32_38,rfl,hz⟩
 refine Q2 5 rfl ?_
 refine Qf (Qa ?_)
 exact ⟨M31,false,hF52,hS,hT32_0,hT32_1,hT32_5,hT32_10,hT32_36,hT32_37,hT32_38,rfl,hz⟩
 refine Q2 15 rfl ?_
 refine Qf (Qa ?_)
 exact ⟨M31,false,hF52,hS,hT32_0,hT32_1,hT32_5,hT32_10,hT32_36,hT32_37,hT32_38,rfl,hz⟩
 refine Q2 19 rfl ?_
 refine Qf (Qa ?_)
 exact ⟨M31,false,hF52,hS,hT32_0,hT32_1,hT32_5,hT32_10,hT32_36,hT32_37,hT32_38,rfl,hz⟩
 rintro T48 w46 ⟨M47,c49,hx50,hS,hT48_0,hT48_1,hT48_5,hT48_10,hT48_36,hT48_37,hT48_38,hT48_63,hz⟩
 replace hE:=Qd hE hx50
 replace hF43:=Qd hF43 hx50
 rw [qkt] at hz
 refine Qr hT48_63 (fun hc51 => ?_) (fun hc51 => ?_)
 replace hz:=Qn hz hc51
 refine Qh <|Qi <|Qc (Qj (.bool false) rfl) ?_
 refine Qf (Qa ?_)
 cases hz
 exact Q4 (Zb (Qq (Qq (Zb (Zb (Qq (Qq (Zb (Qq (Yg rfl rfl ⟨_,M47,_,rfl,hE,(hS.sel (H':=[.box bx1 cx1 104]) [1] (by decide) rfl),rfl,rfl⟩))))))))))
 replace hz:=Qo hz hc51
 refine Qt (Za ?_)
 refine (Qa ?_)
 exact ⟨M47,hF43,hS,hT48_0,hT48_1,hT48_5,hT48_10,hT48_36,hT48_37,hT48_38,hz⟩
 rintro T41 w39 ⟨M40,hx42,hS,hT41_0,hT41_1,hT41_5,hT41_10,hT41_36,hT41_37,hT41_38,hz⟩
 replace hF36:=Qd hF36 hx42
 rw [qr7] at hz
 refine Qi <|Qc (Zz hT41_38 rfl) <|Qc (Qe (.int .i64 (IntKind.wrap .i64 (y33+1))) rfl) ?_
 refine Qf (Qa ?_)
 exact ⟨M40,(IntKind.wrap .i64 (y33+1)),hF36,hS,hT41_0,hT41_1,hT41_5,hT41_10,hT41_36,hT41_37,rfl,(by rw [← hrec34];exact hz)⟩
 replace hz:=Qo hz hc38
 refine Zq <|Qy <|Qy <|Zs ?_
 refine (Za ?_)
 refine (Qa ?_)
 exact ⟨M31,hF19,hS,hT32_0,hT32_1,hT32_5,hT32_10,hz⟩
 rintro T17 w15 ⟨M16,hx18,hS,hT17_0,hT17_1,hT17_5,hT17_10,hz⟩
 replace hF12:=Qd hF12 hx18
 rw [qo1] at hz
 refine Qi <|Qc (Zz hT17_10 rfl) <|Qc (Qe (.int .i64 (IntKind.wrap .i64 (y9+1))) rfl) ?_
 refine Qf (Qa ?_)
 exact ⟨M16,(IntKind.wrap .i64 (y9+1)),hF12,hS,hT17_0,hT17_1,hT17_5,rfl,(by rw [← hrec10];exact hz)⟩
 replace hz:=Qo hz hc14
 refine Zq <|Qy <|Qy <|Zs ?_
 refine (Qa ?_)
 refine Qh <|Qi <|Qc (Qj (.bool true) rfl) ?_
 refine Qf (Qa ?_)
 cases hz
 exact Q4 (Yg rfl rfl ⟨_,M7,_,rfl,hE,(hS.sel (H':=[.box bx1 cx1 104]) [1] (by decide) rfl),rfl,rfl⟩)
def qiw (y54:Int) (rec55:(Vector Bool 32)→(List Int)→Int→Option (List Int)) (d64:Vector Bool 32) (l65:List Int):Option (List Int) :=
 rec55 d64 l65 (IntKind.wrap .i64 (y54+1))
def qix (d51:Vector Bool 32) (l52:List Int) (y54:Int) (rec55:(Vector Bool 32)→(List Int)→Int→Option (List Int)) (c72:Bool):Option (List Int) :=
 (bif c72 then
 (inR y54 32).bind fun _ =>
 (qa7 d51 y54).bind fun x79 =>
 (qe2 d51 y54 true).bind fun a81 =>
 (some a81).bind fun d83 =>
 (app l52 ([y54]:List Int)).bind fun l88 =>
 qiw y54 rec55 d83 l88
 else
 qiw y54 rec55 d51 l52)
def qcw (rec34:(Vector Bool 32)→GSearch→(List Int)→Option (List Int)) (d42:GSearch) (y44:Int):Nat→(Vector Bool 32)→(List Int)→Int→Option (List Int)
 | 0,_,_,_=>none
 | n+1,d51,l52,y54 =>
 (bif decide (y54<32) then
 (inR y54 32).bind fun _ =>
 (qa7 d42.mark_ y54).bind fun x92 =>
 (bif decide (x92>0) then
 (inR y54 32).bind fun _ =>
 (qa7 d42.ring y54).bind fun x97 =>
 qix d51 l52 y54 (qcw rec34 d42 y44 n) (x97==y44)
 else
 qix d51 l52 y54 (qcw rec34 d42 y44 n) false)
 else
 rec34 d51 d42 l52)
def qg2 (fu:Nat) (d28:Vector Bool 32) (l32:List Int) (rec34:(Vector Bool 32)→GSearch→(List Int)→Option (List Int)) (d42:GSearch) (y44:Int):Option (List Int) :=
 (bif decide (y44<0) then
 some l32
 else
 qcw rec34 d42 y44 fu d28 l32 0)
def qlh (y107:Int) (rec108:GSearch→Int→Int→Option (List Int)) (d117:GSearch) (y119:Int):Option (List Int) :=
 rec108 d117 y119 (IntKind.wrap .i64 (y107+1))
def qf6 (fu:Nat) (d28:Vector Bool 32) (l32:List Int) (rec34:(Vector Bool 32)→GSearch→(List Int)→Option (List Int)) (y106:Int) (y107:Int) (rec108:GSearch→Int→Int→Option (List Int)) (d126:GSearch) (c128:Bool):Option (List Int) :=
 (bif c128 then
 qg2 fu d28 l32 rec34 d126 y107
 else
 qlh y107 rec108 d126 y106)
def qcj (fu:Nat) (d28:Vector Bool 32) (l32:List Int) (rec34:(Vector Bool 32)→GSearch→(List Int)→Option (List Int)):Nat→GSearch→Int→Int→Option (List Int)
 | 0,_,_,_=>none
 | n+1,d104,y106,y107 =>
 (bif decide (y107<32) then
 (inR y107 32).bind fun _ =>
 (qa7 d104.mark_ y107).bind fun x134 =>
 (bif decide (x134>0) then
 (inR y107 32).bind fun _ =>
 (qa7 d28 y107).bind fun x139 =>
 (bif !x139 then
 (inR y107 32).bind fun _ =>
 (qa7 d104.ring y107).bind fun x144 =>
 (bif x144==y107 then
 (q4e fu d104 y107 d28).bind fun r150 =>
 qf6 fu d28 l32 rec34 y106 y107 (qcj fu d28 l32 rec34 n) d104 r150
 else
 qf6 fu d28 l32 rec34 y106 y107 (qcj fu d28 l32 rec34 n) d104 false)
 else
 qf6 fu d28 l32 rec34 y106 y107 (qcj fu d28 l32 rec34 n) d104 false)
 else
 qf6 fu d28 l32 rec34 y106 y107 (qcj fu d28 l32 rec34 n) d104 false)
 else
 qg2 fu d28 l32 rec34 d104 y106)
def qck (fu:Nat):Nat→(Vector Bool 32)→GSearch→(List Int)→Option (List Int)
 | 0,_,_,_=>none
 | n+1,d28,d30,l32 =>
 qcj fu d28 l32 (qck fu n) fu d30 (-1) 0
def qo3 (fu:Nat) (x1:GGraph) (x2:Int):Option (List Int) :=
 (qtw fu x1 x2).bind fun r8 =>
 (bif !r8 then
 some []
 else
 (some ({ g:=x1,mark_:=Zr.zd,low:=Zr.zd,on_:=Zr.zd,stack:=Zr.zd,ring:=Zr.zd,next:=Zr.zd }:GSearch)).bind fun d12 =>
 (q1n fu d12 ([]:List Int) x2).bind fun r20 =>
 qck fu fu (Zr.zd:Vector Bool 32) r20.1 ([]:List Int))
theorem q1p {M:Mm} {w:World} {cx1:List Value} {x1:GGraph} {x2:Int} {fu:Nat} {r:(List Int)} (hA:Agree M w) (hcx1:rep M cx1 x1) (hz:qo3 fu x1 x2=some r) :
    Calls Try.prog 26 #[.agg cx1.toArray,.int .i64 x2] w (Gives M w (fun M' u=>repL M' u r)):=by
 refine Zh Try.func26 rfl 85 rfl rfl (by kernel_rfl) fun T hT => ?_
 have hT_0:T 0 = .agg cx1.toArray:=hT 0
 have hT_1:T 1 = .int .i64 x2:=hT 1
 clear hT
 have hE:=Qg w.heap.size noX M
 have hS:St w noX M [] w:=Zx hA
 rw [qo3] at hz
 refine Qh <|Qi ?_
 refine Qs (Yo (v := .agg cx1.toArray) (cs:=cx1) hT_0 rfl hS ?_)
 intro b4 w3 hb4 hS
 refine Qc (Qj ((.slice none 0 0)) rfl) ?_
 refine Qf (Qa ?_)
 refine Qh <|Qh <|Qi ?_
 have ha5:=(rr hcx1)
 refine Qc (Zf q69 rfl (hS.bvB 0 rfl) (Rep.len ha5)) <|Qc (Qe (.int .i64 x2) hT_1) ?_
 obtain ⟨r8,hr7,hz⟩:=Qb hz
 refine Qs (Z6 (vs:=[.agg (sl cx1 (0) 64).toArray,.int .i64 x2]) (v := .bool r8) cb55 (Z8 rfl rfl) hS (q4c hS.agree ha5 hr7) ?_)
 intro w6 hS
 refine Qc (Ye rfl) ?_
 refine Qf (Qa ?_)
 refine Qr rfl (fun hc9 => ?_) (fun hc9 => ?_)
 replace hz:=Qn hz hc9
 refine Qh <|Qi <|Qc (Qj ((.slice none 0 0)) rfl) ?_
 refine Qf (Qa ?_)
 cases hz
 exact Q4 (Qq (Yg rfl rfl (Zk (Ql hS) hE (Z5 _))))
 replace hz:=Qo hz hc9
 refine Qt (Qa ?_)
 refine Qh <|Qi ?_
 have ha10:=(rr hcx1)
 refine Qc (Zf q69 rfl (hS.bvB 0 rfl) (Rep.len ha10)) ?_
 have k11_0:=GSearch.w0 (Zr.zr:rep M (Zr.zc GSearch) (Zr.zd:GSearch)) ha10
 obtain ⟨d12,hd11,hz⟩:=Qb hz
 obtain ⟨cs11,hf11,ha11⟩ : ∃ cs,qbj (([(0,64),(64,32),(96,32),(128,32),(160,1),(161,32),(193,1)]:List (Nat × Nat))[·]?) (Zr.zc GSearch) [(0,.agg (sl cx1 (0) 64).toArray)]=some cs∧rep M cs d12:=⟨_,(Q9 (Zr.zr:rep M (Zr.zc GSearch) (Zr.zd:GSearch)) rfl rfl (Rep.len ha10) (by decide) Z2),Z3 (x:=({ g:=x1,mark_:=Zr.zd,low:=Zr.zd,on_:=Zr.zd,stack:=Zr.zd,ring:=Zr.zd,next:=Zr.zd }:GSearch)) k11_0 hd11⟩
 have hp13:sl cs11 160 1=[.slice none 0 0]:=(Yw hf11 (by rfl)).trans (by rfl)
 replace hS:=hS.nilStk 3 1
 have hk15:skr M (.slice none 0 0) [] ([]:List Int):=q1d
 refine Qc (Zt [(0,.agg (sl cx1 (0) 64).toArray)] zaz (Ym rfl Vb) hf11) ?_
 refine Qs (Yo (v := .agg cs11.toArray) (cs:=cs11) rfl rfl hS ?_)
 intro b17 w16 hb17 hS
 refine Qc (Qj (.pointer (some ⟨b17,0,none⟩)) rfl) ?_
 refine Qf (Qa ?_)
 refine Qh <|Qi <|Qc (Qe (.pointer (some ⟨b17,0,none⟩)) rfl) <|Qc (Qe (.int .i64 x2) hT_1) ?_
 obtain ⟨r20,hr19,hz⟩:=Qb hz
 refine Qs (Zl (vs:=[.pointer (some ⟨b17,0,none⟩),.int .i64 x2]) (L:=[.box b17 cs11 104,.stk (.slice none 0 0) 3 1 []]) (R:=[.box b4 cx1 61]) (rv:=(fun M' u L' => ∃ k0 u1 x1,u = .tuple #[]∧L'=[.box b17 k0 104,.stk u1 3 1 x1]∧rep M' k0 r20.1∧skr M' u1 x1 r20.2∧sl k0 160 1=[u1])) cb56 (Z8 rfl rfl) hS (hS.sel [0,1,2] (by decide) rfl) (fun hS=>q4d hS ha11 hk15 hp13 hr19) ?_)
 rintro u19 M19 w18 L19 hx19 ⟨k0_19,u1_19,x1_19,rfl,hL19,f19_0,f19_1,f19_2⟩ hS
 replace hS:=hS _ hL19
 replace hE:=Qd hE hx19
 refine Qf (Qa ?_)
 refine Qh <|Qi <|Qc (Qj ((.slice none 0 0)) rfl) ?_
 refine Qf (Qa ?_)
 refine Qh <|Qi ?_
 refine Qs (Zg q8m hS ?_)
 intro b22 w21 hb22 hS
 have zb22:rep M19 (Zr.zc (Vector Bool 32)) (Zr.zd:Vector Bool 32):=Zr.zr
 refine Qf (Qa ?_)
 refine Qv ?_
 replace hS:=hS.nilRow 3 1
 refine Zw (fun k35 T' w' => ∃ M25 cs27 d28 cs29 d30 v33 l32,Mm.ext w.heap.size noX M19 M25∧St w noX M25 [.row v33 3 1,.box b22 cs27 58,.box b17 cs29 104,.stk u1_19 3 1 x1_19,.box b4 cx1 61] w'∧rep M25 cs27 d28∧rep M25 cs29 d30∧sl cs29 (0+160) 1=[u1_19]∧repL M25 v33 l32∧T' 5 = .pointer (some ⟨b17,0,none⟩)∧T' 6=v33∧T' 7 = .pointer (some ⟨b22,0,none⟩)∧qck fu k35 d28 d30 l32=some r) fu ?_ ?_ ?_
 exact ⟨M19,(Zr.zc (Vector Bool 32)),(Zr.zd:Vector Bool 32),k0_19,r20.1,(.slice none 0 0),([]:List Int),(Qg _ _ _),hS,zb22,f19_0,f19_2,(Z5 _),rfl,rfl,rfl,hz⟩
 rintro T' w' ⟨_,_,_,_,_,_,_,_,_,_,_,_,_,_,_,_,hz⟩
 rw [qck] at hz
 cases hz
 intro k35
 rintro T26 w24 ⟨M25,cs27,d28,cs29,d30,v33,l32,hx37,hS,hb27,hb29,hp31,hv33,hT26_5,hT26_6,hT26_7,hz⟩
 replace hE:=Qd hE hx37
 have hF36:=hx37
 rw [qck] at hz
 obtain ⟨rec34,hrec34⟩ : ∃ f,f=qck fu k35:=⟨_,rfl⟩
 rw [← hrec34] at hz
 refine Qv <|Qh <|Qi <|Qc (Qj (.int .i64 (-1)) rfl) ?_
 refine Qf (Qa ?_)
 refine Q0 (fun T' w' => ∃ M39 cs41 d42 y44,Mm.ext w.heap.size noX M25 M39∧St w noX M39 [.row v33 3 1,.box b22 cs27 58,.box b17 cs41 104,.stk u1_19 3 1 x1_19,.box b4 cx1 61] w'∧rep M39 cs41 d42∧sl cs41 (0+160) 1=[u1_19]∧T' 5 = .pointer (some ⟨b17,0,none⟩)∧T' 6=v33∧T' 7 = .pointer (some ⟨b22,0,none⟩)∧T' 8 = .int .i64 y44∧qg2 fu d28 l32 rec34 d42 y44=some r) ?_ ?_
 have hF99:=Qg w.heap.size noX M25
 refine Qh <|Qi <|Qc (Qe (.int .i64 0) rfl) ?_
 refine Qf (Qa ?_)
 refine Qv ?_
 refine Zw (fun k109 T' w' => ∃ M101 cs103 d104 y106 y107,Mm.ext w.heap.size noX M25 M101∧St w noX M101 [.row v33 3 1,.box b22 cs27 58,.box b17 cs103 104,.stk u1_19 3 1 x1_19,.box b4 cx1 61] w'∧rep M101 cs103 d104∧sl cs103 (0+160) 1=[u1_19]∧T' 5 = .pointer (some ⟨b17,0,none⟩)∧T' 6=v33∧T' 7 = .pointer (some ⟨b22,0,none⟩)∧T' 8 = .int .i64 y106∧T' 21 = .int .i64 y107∧qcj fu d28 l32 rec34 k109 d104 y106 y107=some r) fu ?_ ?_ ?_
 exact ⟨M25,cs29,d30,((-1):Int),(0:Int),(Qg _ _ _),hS,hb29,hp31,hT26_5,hT26_6,hT26_7,rfl,rfl,hz⟩
 rintro T' w' ⟨_,_,_,_,_,_,_,_,_,_,_,_,_,_,hz⟩
 rw [qcj] at hz
 cases hz
 intro k109
 rintro T102 w100 ⟨M101,cs103,d104,y106,y107,hx111,hS,hb103,hp105,hT102_5,hT102_6,hT102_7,hT102_8,hT102_21,hz⟩
 replace hb27:=Rep.mono hx111.1 hb27
 replace hF99:=Qd hF99 hx111
 have hF110:=hx111
 rw [qcj] at hz
 obtain ⟨rec108,hrec108⟩ : ∃ f,f=qcj fu d28 l32 rec34 k109:=⟨_,rfl⟩
 rw [← hrec108] at hz
 refine Qh <|Qi <|Qc (Zv hT102_21 rfl) ?_
 refine Qf (Qa ?_)
 refine Qh ?_
 refine Qr rfl (fun hc112 => ?_) (fun hc112 => ?_)
 replace hz:=Qn hz hc112
 refine Qt (Qa ?_)
 refine Q0 (fun T' w' => ∃ M114 cs116 d117 y119,Mm.ext w.heap.size noX M101 M114∧St w noX M114 [.row v33 3 1,.box b22 cs27 58,.box b17 cs116 104,.stk u1_19 3 1 x1_19,.box b4 cx1 61] w'∧rep M114 cs116 d117∧sl cs116 (0+160) 1=[u1_19]∧T' 5 = .pointer (some ⟨b17,0,none⟩)∧T' 6=v33∧T' 7 = .pointer (some ⟨b22,0,none⟩)∧T' 8 = .int .i64 y119∧T' 21 = .int .i64 y107∧qlh y107 rec108 d117 y119=some r) ?_ ?_
 have hF121:=Qg w.heap.size noX M101
 refine Qv <|Qh <|Qi <|Qc (Qe (.int .i64 y107) hT102_21) <|Qc (Qj (.int .i64 y107) rfl) ?_
 refine Qf (Qa ?_)
 refine Q0 (fun T' w' => ∃ M123 cs125 d126 c128,Mm.ext w.heap.size noX M101 M123∧St w noX M123 [.row v33 3 1,.box b22 cs27 58,.box b17 cs125 104,.stk u1_19 3 1 x1_19,.box b4 cx1 61] w'∧rep M123 cs125 d126∧sl cs125 (0+160) 1=[u1_19]∧T' 5 = .pointer (some ⟨b17,0,none⟩)∧T' 6=v33∧T' 7 = .pointer (some ⟨b22,0,none⟩)∧T' 8 = .int .i64 y106∧T' 9 = .int .i64 y107∧T' 21 = .int .i64 y107∧T' 52 = .bool c128∧qf6 fu d28 l32 rec34 y106 y107 rec108 d126 c128=some r) ?_ ?_
 have hF131:=Qg w.heap.size noX M101
 refine Qi <|Qc (Qe (.pointer (some ⟨b17,0,none⟩)) hT102_5) <|Qc (Qe (.int .i64 y107) rfl) <|Qc (Q6 rfl) <|Qc (Qp Jc rfl) ?_
 obtain ⟨u132,hx133,hz⟩:=Qb hz
 obtain ⟨hx133a,hx133b⟩:=Qw hx133
 refine Qc (Ze K2 rfl rfl hx133a hx133b) ?_
 obtain ⟨x134,hx135,hz⟩:=Qb hz
 refine Qc (Qm (.int .i64 x134) Yb rfl (hS.bvB 2 rfl) (vp (k:=1) rfl rfl (Vr (rr hb103)) hx135)) <|Qc (Yr rfl rfl) <|Qc (Qe (.bool (decide (x134>0))) rfl) ?_
 rcases ic hz with ⟨hc136,hz⟩ | ⟨hc136,hz⟩<;>rw [hc136]
 refine Qk rfl rfl (Qe (.int .i64 y107) rfl) ?_
 obtain ⟨u137,hx138,hz⟩:=Qb hz
 obtain ⟨hx138a,hx138b⟩:=Qw hx138
 refine Qk rfl rfl (Ze Jn hT102_7 rfl hx138a hx138b) ?_
 obtain ⟨x139,hx140,hz⟩:=Qb hz
 refine Qk rfl rfl (Qm (.bool x139) Jl rfl (hS.bvB 1 rfl) (vp (k:=1) rfl rfl (rr hb27) hx140)) <|Qk rfl rfl (Ye rfl) <|Q2 2 rfl ?_
 rcases ic hz with ⟨hc141,hz⟩ | ⟨hc141,hz⟩<;>rw [hc141]
 refine Qk rfl rfl (Qe (.pointer (some ⟨b17,0,none⟩)) hT102_5) <|Qk rfl rfl (Qe (.int .i64 y107) rfl) <|Qk rfl rfl (Q6 rfl) <|Qk rfl rfl (Qp qot rfl) ?_
 obtain ⟨u142,hx143,hz⟩:=Qb hz
 obtain ⟨hx143a,hx143b⟩:=Qw hx143
 refine Qk rfl rfl (Ze K2 rfl rfl hx143a hx143b) ?_
 obtain ⟨x144,hx145,hz⟩:=Qb hz
 refine Qk rfl rfl (Qm (.int .i64 x144) Yb rfl (hS.bvB 2 rfl) (vp (k:=1) rfl rfl (Kj (rr hb103)) hx145)) <|Qk rfl rfl (Qe (.int .i64 y107) rfl) <|Qk rfl rfl (Yd rfl rfl) <|Q2 2 rfl ?_
 rcases ic hz with ⟨hc146,hz⟩ | ⟨hc146,hz⟩<;>rw [hc146]
 refine Qk rfl rfl (Qe (.pointer (some ⟨b17,0,none⟩)) hT102_5) <|Qk rfl rfl (Qe (.int .i64 y107) rfl) ?_
 have ha147:=(rr hb27)
 refine Qk rfl rfl (Zf q8l hT102_7 (hS.bvB 1 rfl) (Rep.len ha147)) ?_
 obtain ⟨r150,hr149,hz⟩:=Qb hz
 refine Kf rfl rfl (Zl (vs:=[.pointer (some ⟨b17,0,none⟩),.int .i64 y107,.agg (sl cs27 (0) 32).toArray]) (L:=[.box b17 cs103 104]) (R:=[.row v33 3 1,.box b22 cs27 58,.stk u1_19 3 1 x1_19,.box b4 cx1 61]) (rv:=(fun M' u L'=>u = .bool r150∧L'=[.box b17 cs103 104])) cb57 (Jj rfl rfl rfl) hS (hS.sel [2,0,1,3,4] (by decide) rfl) (fun hS=>q6n hS hb103 ha147 hr149) ?_)
 rintro u149 M149 w148 L149 hx149 ⟨rfl,hL149⟩ hS
 replace hS:=hS _ hL149
 replace hb103:=Rep.mono hx149.1 hb103
 replace hF131:=Qd hF131 hx149
 refine Qc (Zy (.bool r150) rfl rfl) ?_
 refine Qf (Qa ?_)
 exact ⟨M149,cs103,d104,r150,hF131,(hS.sel (H':=[.row v33 3 1,.box b22 cs27 58,.box b17 cs103 104,.stk u1_19 3 1 x1_19,.box b4 cx1 61]) [1,2,0,3,4] (by decide) rfl),hb103,hp105,hT102_5,hT102_6,hT102_7,hT102_8,rfl,hT102_21,rfl,hz⟩
 refine Q2 5 rfl ?_
 refine Qf (Qa ?_)
 exact ⟨M101,cs103,d104,false,hF131,hS,hb103,hp105,hT102_5,hT102_6,hT102_7,hT102_8,rfl,hT102_21,rfl,hz⟩
 refine Q2 15 rfl ?_
 refine Qf (Qa ?_)
 exact ⟨M101,cs103,d104,false,hF131,hS,hb103,hp105,hT102_5,hT102_6,hT102_7,hT102_8,rfl,hT102_21,rfl,hz⟩
 refine Q2 21 rfl ?_
 refine Qf (Qa ?_)
 exact ⟨M101,cs103,d104,false,hF131,hS,hb103,hp105,hT102_5,hT102_6,hT102_7,hT102_8,rfl,hT102_21,rfl,hz⟩
 rintro T124 w122 ⟨M123,cs125,d126,c128,hx129,hS,hb125,hp127,hT124_5,hT124_6,hT124_7,hT124_8,hT124_9,hT124_21,hT124_52,hz⟩
 replace hF99:=Qd hF99 hx129
 replace hF121:=Qd hF121 hx129
 rw [qf6] at hz
 refine Qr hT124_52 (fun hc130 => ?_) (fun hc130 => ?_)
 replace hz:=Qn hz hc130
 refine Qh <|Qi <|Qc (Qe (.int .i64 y107) hT124_9) <|Qc (Qj (.int .i64 y107) rfl) ?_
 refine Qf (Qa ?_)
 refine Zq <|q47 rfl <|Qy <|Qy <|Zs ?_
 refine (Qa ?_)
 exact ⟨M123,cs125,d126,y107,hF99,hS,hb125,hp127,hT124_5,hT124_6,hT124_7,rfl,hz⟩
 replace hz:=Qo hz hc130
 refine Qt (Za ?_)
 refine (Qa ?_)
 exact ⟨M123,cs125,d126,y106,hF121,hS,hb125,hp127,hT124_5,hT124_6,hT124_7,hT124_8,hT124_21,hz⟩
 rintro T115 w113 ⟨M114,cs116,d117,y119,hx120,hS,hb116,hp118,hT115_5,hT115_6,hT115_7,hT115_8,hT115_21,hz⟩
 replace hF110:=Qd hF110 hx120
 rw [qlh] at hz
 refine Qi <|Qc (Zz hT115_21 rfl) <|Qc (Qe (.int .i64 (IntKind.wrap .i64 (y107+1))) rfl) ?_
 refine Qf (Qa ?_)
 exact ⟨M114,cs116,d117,y119,(IntKind.wrap .i64 (y107+1)),hF110,hS,hb116,hp118,hT115_5,hT115_6,hT115_7,hT115_8,rfl,(by rw [← hrec108];exact hz)⟩
 replace hz:=Qo hz hc112
 refine Zq <|Qy <|Qy <|Zs ?_
 refine (Qa ?_)
 exact ⟨M101,cs103,d104,y106,hF99,hS,hb103,hp105,hT102_5,hT102_6,hT102_7,hT102_8,hz⟩
 rintro T40 w38 ⟨M39,cs41,d42,y44,hx45,hS,hb41,hp43,hT40_5,hT40_6,hT40_7,hT40_8,hz⟩
 replace hb27:=Rep.mono hx45.1 hb27
 replace hv33:=Qz hx45.1 hv33
 replace hE:=Qd hE hx45
 replace hF36:=Qd hF36 hx45
 rw [qg2] at hz
 refine Qh <|Qh <|Qi <|Qc (Qe (.int .i64 y44) hT40_8) <|Qc (Zv rfl rfl) ?_
 refine Qf (Qa ?_)
 refine Qr rfl (fun hc46 => ?_) (fun hc46 => ?_)
 replace hz:=Qn hz hc46
 refine Qh <|Qi <|Qc (Qe (v33) hT40_6) <|Qc (Qj (v33) rfl) ?_
 refine Qf (Qa ?_)
 cases hz
 exact Q4 (Qq (Zb (Qq (Zb (Yg rfl rfl (Zk (Ql (Ql (Ql (Ql (Ql hS))))) hE hv33))))))
 replace hz:=Qo hz hc46
 refine Qt (Qa ?_)
 refine Qh <|Qi <|Qc (Qe (.int .i64 0) rfl) ?_
 refine Qf (Qa ?_)
 refine Qv ?_
 refine Zw (fun k56 T' w' => ∃ M48 cs50 d51 v53 l52 y54,Mm.ext w.heap.size noX M39 M48∧St w noX M48 [.row v53 3 1,.box b22 cs50 58,.box b17 cs41 104,.stk u1_19 3 1 x1_19,.box b4 cx1 61] w'∧rep M48 cs50 d51∧repL M48 v53 l52∧T' 5 = .pointer (some ⟨b17,0,none⟩)∧T' 6=v53∧T' 7 = .pointer (some ⟨b22,0,none⟩)∧T' 8 = .int .i64 y44∧T' 58 = .int .i64 y54∧qcw rec34 d42 y44 k56 d51 l52 y54=some r) fu ?_ ?_ ?_
 exact ⟨M39,cs27,d28,v33,l32,(0:Int),(Qg _ _ _),hS,hb27,hv33,hT40_5,hT40_6,hT40_7,hT40_8,rfl,hz⟩
 rintro T' w' ⟨_,_,_,_,_,_,_,_,_,_,_,_,_,_,_,hz⟩
 rw [qcw] at hz
 cases hz
 intro k56
 rintro T49 w47 ⟨M48,cs50,d51,v53,l52,y54,hx58,hS,hb50,hv53,hT49_5,hT49_6,hT49_7,hT49_8,hT49_58,hz⟩
 replace hb41:=Rep.mono hx58.1 hb41
 replace hF36:=Qd hF36 hx58
 have hF57:=hx58
 rw [qcw] at hz
 obtain ⟨rec55,hrec55⟩ : ∃ f,f=qcw rec34 d42 y44 k56:=⟨_,rfl⟩
 rw [← hrec55] at hz
 refine Qh <|Qi <|Qc (Zv hT49_58 rfl) ?_
 refine Qf (Qa ?_)
 refine Qh ?_
 refine Qr rfl (fun hc59 => ?_) (fun hc59 => ?_)
 replace hz:=Qn hz hc59
 refine Qt (Qa ?_)
 refine Q0 (fun T' w' => ∃ M61 cs63 d64 v66 l65,Mm.ext w.heap.size noX M48 M61∧St w noX M61 [.row v66 3 1,.box b22 cs63 58,.box b17 cs41 104,.stk u1_19 3 1 x1_19,.box b4 cx1 61] w'∧rep M61 cs63 d64∧repL M61 v66 l65∧T' 5 = .pointer (some ⟨b17,0,none⟩)∧T' 6=v66∧T' 7 = .pointer (some ⟨b22,0,none⟩)∧T' 8 = .int .i64 y44∧T' 58 = .int .i64 y54∧qiw y54 rec55 d64 l65=some r) ?_ ?_
 have hF68:=Qg w.heap.size noX M48
 refine Qv <|Qh <|Qi <|Qc (Qe (.int .i64 y54) hT49_58) <|Qc (Qj (.int .i64 y54) rfl) ?_
 refine Qf (Qa ?_)
 refine Q0 (fun T' w' => ∃ M70 c72,Mm.ext w.heap.size noX M48 M70∧St w noX M70 [.row v53 3 1,.box b22 cs50 58,.box b17 cs41 104,.stk u1_19 3 1 x1_19,.box b4 cx1 61] w'∧T' 5 = .pointer (some ⟨b17,0,none⟩)∧T' 6=v53∧T' 7 = .pointer (some ⟨b22,0,none⟩)∧T' 8 = .int .i64 y44∧T' 10 = .int .i64 y54∧T' 58 = .int .i64 y54∧T' 77 = .bool c72∧qix d51 l52 y54 rec55 c72=some r) ?_ ?_
 have hF89:=Qg w.heap.size noX M48
 refine Qi <|Qc (Qe (.pointer (some ⟨b17,0,none⟩)) hT49_5) <|Qc (Qe (.int .i64 y54) rfl) <|Qc (Q6 rfl) <|Qc (Qp Jc rfl) ?_
 obtain ⟨u90,hx91,hz⟩:=Qb hz
 obtain ⟨hx91a,hx91b⟩:=Qw hx91
 refine Qc (Ze K2 rfl rfl hx91a hx91b) ?_
 obtain ⟨x92,hx93,hz⟩:=Qb hz
 refine Qc (Qm (.int .i64 x92) Yb rfl (hS.bvB 2 rfl) (vp (k:=1) rfl rfl (Vr (rr hb41)) hx93)) <|Qc (Yr rfl rfl) <|Qc (Qe (.bool (decide (x92>0))) rfl) ?_
 rcases ic hz with ⟨hc94,hz⟩ | ⟨hc94,hz⟩<;>rw [hc94]
 refine Qk rfl rfl (Qe (.pointer (some ⟨b17,0,none⟩)) hT49_5) <|Qk rfl rfl (Qe (.int .i64 y54) rfl) <|Qk rfl rfl (Q6 rfl) <|Qk rfl rfl (Qp qot rfl) ?_
 obtain ⟨u95,hx96,hz⟩:=Qb hz
 obtain ⟨hx96a,hx96b⟩:=Qw hx96
 refine Qk rfl rfl (Ze K2 rfl rfl hx96a hx96b) ?_
 obtain ⟨x97,hx98,hz⟩:=Qb hz
 refine Qk rfl rfl (Qm (.int .i64 x97) Yb rfl (hS.bvB 2 rfl) (vp (k:=1) rfl rfl (Kj (rr hb41)) hx98)) <|Qk rfl rfl (Qe (.int .i64 y44) hT49_8) <|Qk rfl rfl (Yd rfl rfl) <|Qc (Zy (.bool (x97==y44)) rfl rfl) ?_
 refine Qf (Qa ?_)
 exact ⟨M48,(x97==y44),hF89,hS,hT49_5,hT49_6,hT49_7,hT49_8,rfl,hT49_58,rfl,hz⟩
 refine Q2 9 rfl ?_
 refine Qf (Qa ?_)
 exact ⟨M48,false,hF89,hS,hT49_5,hT49_6,hT49_7,hT49_8,rfl,hT49_58,rfl,hz⟩
 rintro T71 w69 ⟨M70,c72,hx73,hS,hT71_5,hT71_6,hT71_7,hT71_8,hT71_10,hT71_58,hT71_77,hz⟩
 replace hb50:=Rep.mono hx73.1 hb50
 replace hv53:=Qz hx73.1 hv53
 replace hF68:=Qd hF68 hx73
 rw [qix] at hz
 refine Qr hT71_77 (fun hc74 => ?_) (fun hc74 => ?_)
 replace hz:=Qn hz hc74
 refine Qh <|Qi <|Qc (Qe (.int .i64 y54) hT71_10) ?_
 obtain ⟨u75,hx76,hz⟩:=Qb hz
 obtain ⟨hx76a,hx76b⟩:=Qw hx76
 refine Qc (Ze Jn hT71_7 rfl hx76a hx76b) ?_
 obtain ⟨x79,hx80,hz⟩:=Qb hz
 obtain ⟨a81,hx82,hz⟩:=Qb hz
 obtain ⟨d83,hd78,hz⟩:=Qb hz
 refine Qs (Q8 1 1 hS rfl hb50 rfl rfl (rb true:rep M70 _ _) rfl rfl (vu (k:=1) rfl rfl (rr hb50) (Lf (vp (k:=1) rfl rfl (rr hb50) hx80) (rb true:rep M70 _ _)) hx82) hd78 ?_)
 intro cs78 w77 hb78 ha78 hs78 hS
 refine Qf (Qa ?_)
 refine Qi <|Qc (Qe (v53) hT71_6) <|Qc (Qe (.int .i64 y54) hT71_10) ?_
 refine Qs (Z0 (α := Int) (l:=([y54]:List Int)) [.int .i64 y54] qy0 (Ym rfl Vb) rfl rfl (by decide) (by decide) (by decide) hS (K3 (ri y54:rep M70 _ _) Jk) ?_)
 intro v85 M85 w84 hx85 hv85 hS
 replace hv53:=Qz hx85.1 hv53
 obtain ⟨l88,hr87,hz⟩:=Qb hz
 obtain ⟨hy87,hs87⟩:=Z1 hr87
 refine Qs (Y7 (α := Int) (j:=0) Ji hS rfl rfl rfl hv53 hv85 hy87 ?_)
 intro v87 M87 w86 hx87 hv87 hS
 rw [← hs87] at hv87
 clear hr87 hs87
 replace hb78:=Rep.mono (hx85.1.trans hx87.1) hb78
 replace hF68:=Qd hF68 (hx85.trans hx87)
 refine Qc (Qj (v87) rfl) ?_
 refine Qf (Za ?_)
 refine (Qa ?_)
 exact ⟨M87,cs78,d83,v87,l88,hF68,hS,hb78,hv87,hT71_5,rfl,hT71_7,hT71_8,hT71_58,hz⟩
 replace hz:=Qo hz hc74
 refine Qt (Za ?_)
 refine (Qa ?_)
 exact ⟨M70,cs50,d51,v53,l52,hF68,hS,hb50,hv53,hT71_5,hT71_6,hT71_7,hT71_8,hT71_58,hz⟩
 rintro T62 w60 ⟨M61,cs63,d64,v66,l65,hx67,hS,hb63,hv66,hT62_5,hT62_6,hT62_7,hT62_8,hT62_58,hz⟩
 replace hF57:=Qd hF57 hx67
 rw [qiw] at hz
 refine Qi <|Qc (Zz hT62_58 rfl) <|Qc (Qe (.int .i64 (IntKind.wrap .i64 (y54+1))) rfl) ?_
 refine Qf (Qa ?_)
 exact ⟨M61,cs63,d64,v66,l65,(IntKind.wrap .i64 (y54+1)),hF57,hS,hb63,hv66,hT62_5,hT62_6,hT62_7,hT62_8,rfl,(by rw [← hrec55];exact hz)⟩
 replace hz:=Qo hz hc59
 refine Zq <|Qy <|Qy <|Zs ?_
 refine (Za ?_)
 refine (Qa ?_)
 exact ⟨M48,cs50,d51,cs41,d42,v53,l52,hF36,hS,hb50,hb41,hp43,hv53,hT49_5,hT49_6,hT49_7,(by rw [← hrec34];exact hz)⟩
end Go.Proofs.Yteilffoclpgijaa
namespace Go.Proofs.Yteilffoclpgijaa
set_option maxHeartbeats 4000000
set_option maxRecDepth 100000
open Go.RowKit
open Rep (rep)
set_option linter.unusedVariables false
abbrev Kv := @GNode.p1
abbrev V5 := @q8a
abbrev Y6 := @q75
abbrev Yc := @GEntry.p0
abbrev Q5 := @GNode.p0
abbrev K7 := @q76
abbrev Vs := @GEntry.p1
abbrev Kc := @GEntry.p2
abbrev Jo := @q77
abbrev Vx := @GEntry.p3
abbrev Vo := @q78
abbrev Yh := @GEntry.p4
abbrev V6 := @q79
abbrev Yt := @GEntry.p5
abbrev Yx := @GNode.u0
abbrev Je := @GEntry.u4
abbrev Jf := @GEntry.u5
abbrev K8 := @GNode.p2
abbrev Kd := @q1c
abbrev Km := @q8y
abbrev Vk := @ta34
abbrev Kl := @zaq
abbrev Vl := @qm6
def qiy (c5:Bool):Option Bool :=
 some c5
def qml (fu:Nat) (x1:Int):Option Bool :=
 (bif decide (x1≥0) then
 qiy (decide (x1<6))
 else
 qiy false)
theorem qtx {M:Mm} {w:World} {x1:Int} {fu:Nat} {r:Bool} (hA:Agree M w)  (hz:qml fu x1=some r) :
    Calls Try.prog 87 #[.int .i64 x1] w (qc1 w (.bool r)):=by
 refine Zh Try.func87 rfl 9 rfl rfl (by kernel_rfl) fun T hT => ?_
 have hT_0:T 0 = .int .i64 x1:=hT 0
 clear hT
 have hE:=Qg w.heap.size noX M
 have hS:St w noX M [] w:=Zx hA
 rw [qml] at hz
 refine Qh <|Qi <|Qc (Qj (.bool false) rfl) ?_
 refine Qf (Qa ?_)
 refine Q0 (fun T' w' => ∃ M3 c5,Mm.ext w.heap.size noX M M3∧St w noX M3 [] w'∧T' 2 = .bool c5∧qiy c5=some r) ?_ ?_
 have hF7:=Qg w.heap.size noX M
 refine Qi <|Qc (Qe (.int .i64 x1) hT_0) <|Qc (Vd rfl rfl) <|Qc (Qe (.bool (decide (x1≥0))) rfl) ?_
 rcases ic hz with ⟨hc8,hz⟩ | ⟨hc8,hz⟩<;>rw [hc8]
 refine Qk rfl rfl (Qe (.int .i64 x1) hT_0) <|Qk rfl rfl (Zv rfl rfl) <|Q2 2 rfl ?_
 refine Qf (Qa ?_)
 exact ⟨M,(decide (x1<6)),hF7,hS,rfl,hz⟩
 refine Q2 4 rfl ?_
 refine Qf (Qa ?_)
 exact ⟨M,false,hF7,hS,rfl,hz⟩
 rintro T4 w2 ⟨M3,c5,hx6,hS,hT4_2,hz⟩
 rw [qiy] at hz
 cases hz
 exact Q4 (Yg rfl hT4_2 ⟨rfl,hS.kept⟩)
def qhs (y17:Int) (rec18:(Vector Bool 32)→Int→Option Bool) (d27:Vector Bool 32):Option Bool :=
 rec18 d27 (IntKind.wrap .i64 (y17+1))
def qht (d16:Vector Bool 32) (y17:Int) (rec18:(Vector Bool 32)→Int→Option Bool) (x31:Int):Option Bool :=
 (inR x31 32).bind fun _ =>
 (qa7 d16 x31).bind fun x40 =>
 (qe2 d16 x31 true).bind fun a42 =>
 (some a42).bind fun d44 =>
 qhs y17 rec18 d44
def qc6 (d16:Vector Bool 32) (y17:Int) (rec18:(Vector Bool 32)→Int→Option Bool) (x31:Int) (c49:Bool):Option Bool :=
 (bif c49 then
 some false
 else
 qht d16 y17 rec18 x31)
def qc7 (y68:Int) (rec69:Int→Option Bool):Option Bool :=
 rec69 (IntKind.wrap .i64 (y68+1))
def qhu (y111:Int) (rec112:Int→Option Bool):Option Bool :=
 rec112 (IntKind.wrap .i64 (y111+1))
def qdt (y111:Int) (rec112:Int→Option Bool) (c127:Bool):Option Bool :=
 (bif c127 then
 some false
 else
 qhu y111 rec112)
def qbn (y68:Int) (rec69:Int→Option Bool) (d85:GEntry):Nat→Int→Option Bool
 | 0,_=>none
 | n+1,y111 =>
 (bif decide (y111<(d85.at_.length:Int)) then
 (idx d85.at_ y111).bind fun x123 =>
 (bif decide (x123<0) then
 qdt y111 (qbn y68 rec69 d85 n) true
 else
 (bif decide (x123≥(d85.ops.length:Int)) then
 qdt y111 (qbn y68 rec69 d85 n) true
 else
 (bif decide (y111>0) then
 (idx d85.at_ (IntKind.wrap .i64 (y111-1))).bind fun x138 =>
 qdt y111 (qbn y68 rec69 d85 n) (decide (x138≥x123))
 else
 qdt y111 (qbn y68 rec69 d85 n) false)))
 else
 qc7 y68 rec69)
def qhv (fu:Nat) (y68:Int) (rec69:Int→Option Bool) (d85:GEntry):Option Bool :=
 qbn y68 rec69 d85 fu 0
def qba (fu:Nat) (y68:Int) (rec69:Int→Option Bool) (d85:GEntry) (c143:Bool):Option Bool :=
 (bif c143 then
 some false
 else
 qhv fu y68 rec69 d85)
def qhw (fu:Nat) (y68:Int) (rec69:Int→Option Bool) (d85:GEntry):Option Bool :=
 (bif d85.state==0 then
 (bif decide ((IntKind.wrap .i64 ((IntKind.wrap .i64 ((IntKind.wrap .i64 ((IntKind.wrap .i64 ((d85.ops.length:Int)+(d85.first.length:Int)))+(d85.deps.length:Int)))+(d85.at_.length:Int)))+(d85.values.length:Int)))>0) then
 some false
 else
 qc7 y68 rec69)
 else
 (some (qap d85.ops)).bind fun r150 =>
 (bif !r150 then
 qba fu y68 rec69 d85 true
 else
 (some (qav d85.first)).bind fun r155 =>
 (bif !r155 then
 qba fu y68 rec69 d85 true
 else
 (some (qav d85.deps)).bind fun r160 =>
 (bif !r160 then
 qba fu y68 rec69 d85 true
 else
 (some (qcp d85.first y68)).bind fun r165 =>
 (bif r165 then
 qba fu y68 rec69 d85 true
 else
 (some (qcp d85.deps y68)).bind fun r170 =>
 (bif r170 then
 qba fu y68 rec69 d85 true
 else
 (bif d85.state==1 then
 (bif decide ((d85.deps.length:Int)>0) then
 qba fu y68 rec69 d85 true
 else
 (bif d85.state != 3 then
 (bif decide ((d85.at_.length:Int)>0) then
 qba fu y68 rec69 d85 true
 else
 qba fu y68 rec69 d85 ((d85.at_.length:Int) != (d85.values.length:Int)))
 else
 qba fu y68 rec69 d85 ((d85.at_.length:Int) != (d85.values.length:Int))))
 else
 (bif d85.state != 3 then
 (bif decide ((d85.at_.length:Int)>0) then
 qba fu y68 rec69 d85 true
 else
 qba fu y68 rec69 d85 ((d85.at_.length:Int) != (d85.values.length:Int)))
 else
 qba fu y68 rec69 d85 ((d85.at_.length:Int) != (d85.values.length:Int))))))))))
def qcc (fu:Nat) (y68:Int) (rec69:Int→Option Bool) (d85:GEntry) (c204:Bool):Option Bool :=
 (bif c204 then
 some false
 else
 qhw fu y68 rec69 d85)
def qb8 (fu:Nat) (x1:GNode) (d16:Vector Bool 32):Nat→Int→Option Bool
 | 0,_=>none
 | n+1,y68 =>
 (bif decide (y68<32) then
 (qa7 x1.entries y68).bind fun x79 =>
 (some x79).bind fun d85 =>
 (bif decide (d85.state<0) then
 qcc fu y68 (qb8 fu x1 d16 n) d85 true
 else
 (bif decide (d85.state>3) then
 qcc fu y68 (qb8 fu x1 d16 n) d85 true
 else
 (inR y68 32).bind fun _ =>
 (qa7 d16 y68).bind fun x215 =>
 qcc fu y68 (qb8 fu x1 d16 n) d85 (!((d85.state==3)==x215))))
 else
 some true)
def qbf (fu:Nat) (x1:GNode):Nat→(Vector Bool 32)→Int→Option Bool
 | 0,_,_=>none
 | n+1,d16,y17 =>
 (bif decide (y17<(x1.order.length:Int)) then
 (idx x1.order y17).bind fun x31 =>
 (bif decide (x31<0) then
 qc6 d16 y17 (qbf fu x1 n) x31 true
 else
 (bif decide (x31≥32) then
 qc6 d16 y17 (qbf fu x1 n) x31 true
 else
 (inR x31 32).bind fun _ =>
 (qa7 d16 x31).bind fun x57 =>
 (bif x57 then
 qc6 d16 y17 (qbf fu x1 n) x31 true
 else
 (inR x31 32).bind fun _ =>
 (qa7 x1.entries x31).bind fun x62 =>
 qc6 d16 y17 (qbf fu x1 n) x31 (x62.state != 3))))
 else
 qb8 fu x1 d16 fu 0)
def qiz (fu:Nat) (x1:GNode):Option Bool :=
 (some (Zr.zd:Vector Bool 32)).bind fun d9 =>
 qbf fu x1 fu d9 0
theorem qwh {M:Mm} {w:World} {cx1:List Value} {x1:GNode} {fu:Nat} {r:Bool} (hA:Agree M w) (hcx1:rep M cx1 x1) (hz:qiz fu x1=some r) :
    Calls Try.prog 37 #[.agg cx1.toArray] w (qc1 w (.bool r)):=by
 refine Zh Try.func37 rfl 178 rfl rfl (by kernel_rfl) fun T hT => ?_
 have hT_0:T 0 = .agg cx1.toArray:=hT 0
 clear hT
 have hE:=Qg w.heap.size noX M
 have hS:St w noX M [] w:=Zx hA
 rw [qiz] at hz
 refine Qh <|Qi ?_
 refine Qs (Yo (v := .agg cx1.toArray) (cs:=cx1) hT_0 rfl hS ?_)
 intro b3 w2 hb3 hS
 refine Qc (Qj (.bool false) rfl) ?_
 refine Qf (Qa ?_)
 refine Qh <|Qi ?_
 have z4:rep M (Zr.zc (Vector Bool 32)) (Zr.zd:Vector Bool 32):=Zr.zr
 refine Qc (qta q8m Jn) ?_
 refine Qs (Zg q8m hS ?_)
 intro b6 w5 hb6 hS
 have zb6:rep M (Zr.zc (Vector Bool 32)) (Zr.zd:Vector Bool 32):=Zr.zr
 obtain ⟨d9,hd8,hz⟩:=Qb hz
 refine Qs (Q8 0 32 hS rfl zb6 rfl rfl z4 rfl rfl (Lf (rr zb6) z4) hd8 ?_)
 intro cs8 w7 hb8 ha8 hs8 hS
 refine Qf (Qa ?_)
 refine Qh <|Qh <|Qi <|Qc (Qp qoo rfl) ?_
 obtain ⟨v10,ev10,hv10⟩:=(Kv (rr hcx1))
 refine Qc (Qm v10 Z4 rfl (hS.bvB 1 rfl) ev10) ?_
 obtain ⟨a11,c11,hv11,_⟩:=Q3 hv10
 refine Qc (Zj Qu (Vv hv11 rfl)) <|Qc (Qe (.int .i64 0) rfl) ?_
 refine Qf (Qa ?_)
 refine Qv ?_
 refine Zw (fun k19 T' w' => ∃ M13 cs15 d16 y17,Mm.ext w.heap.size noX M M13∧St w noX M13 [.box b6 cs15 58,.box b3 cx1 34] w'∧rep M13 cs15 d16∧T' 1 = .pointer (some ⟨b3,0,none⟩)∧T' 3 = .pointer (some ⟨b6,0,none⟩)∧T' 12=v10∧T' 13 = .int .i64 (x1.order.length:Int)∧T' 14 = .int .i64 y17∧qbf fu x1 k19 d16 y17=some r) fu ?_ ?_ ?_
 exact ⟨M,cs8,d9,(0:Int),(Qg _ _ _),hS,hb8,rfl,rfl,rfl,rfl,rfl,hz⟩
 rintro T' w' ⟨_,_,_,_,_,_,_,_,_,_,_,_,hz⟩
 rw [qbf] at hz
 cases hz
 intro k19
 rintro T14 w12 ⟨M13,cs15,d16,y17,hx21,hS,hb15,hT14_1,hT14_3,hT14_12,hT14_13,hT14_14,hz⟩
 replace hcx1:=Rep.mono hx21.1 hcx1
 replace hv10:=Qz hx21.1 hv10
 have hF20:=hx21
 rw [qbf] at hz
 obtain ⟨rec18,hrec18⟩ : ∃ f,f=qbf fu x1 k19:=⟨_,rfl⟩
 rw [← hrec18] at hz
 refine Qh <|Qi <|Qc (Zv hT14_14 hT14_13) ?_
 refine Qf (Qa ?_)
 refine Qh ?_
 refine Qr rfl (fun hc22 => ?_) (fun hc22 => ?_)
 replace hz:=Qn hz hc22
 refine Qt (Qa ?_)
 refine Q0 (fun T' w' => ∃ M24 cs26 d27,Mm.ext w.heap.size noX M13 M24∧St w noX M24 [.box b6 cs26 58,.box b3 cx1 34] w'∧rep M24 cs26 d27∧T' 1 = .pointer (some ⟨b3,0,none⟩)∧T' 3 = .pointer (some ⟨b6,0,none⟩)∧T' 12=v10∧T' 13 = .int .i64 (x1.order.length:Int)∧T' 14 = .int .i64 y17∧qhs y17 rec18 d27=some r) ?_ ?_
 have hF29:=Qg w.heap.size noX M13
 refine Qv <|Qh <|Qi ?_
 obtain ⟨x31,hx30,hz⟩:=Qb hz
 obtain ⟨b30,o30,c30,p30,hv30,hi30,hj30,hM30,hr30⟩:=Yf hv10 hx30
 replace hr30:rep _ (sl p30 (o30+Int.toNat y17*1) 1) x31:=hr30
 refine Qc (Ys V2 hT14_12 hv30 hT14_14 hi30 hj30) <|Qc (Qm (.int .i64 x31) Yb rfl (hS.bvM hM30) hr30) <|Qc (Qj (.int .i64 x31) rfl) ?_
 refine Qf (Qa ?_)
 refine Q0 (fun T' w' => ∃ M33,Mm.ext w.heap.size noX M13 M33∧St w noX M33 [.box b6 cs15 58,.box b3 cx1 34] w'∧T' 1 = .pointer (some ⟨b3,0,none⟩)∧T' 3 = .pointer (some ⟨b6,0,none⟩)∧T' 5 = .int .i64 x31∧T' 12=v10∧T' 13 = .int .i64 (x1.order.length:Int)∧T' 14 = .int .i64 y17∧qht d16 y17 rec18 x31=some r) ?_ ?_
 have hF45:=Qg w.heap.size noX M13
 refine Q0 (fun T' w' => ∃ M47 c49,Mm.ext w.heap.size noX M13 M47∧St w noX M47 [.box b6 cs15 58,.box b3 cx1 34] w'∧T' 1 = .pointer (some ⟨b3,0,none⟩)∧T' 3 = .pointer (some ⟨b6,0,none⟩)∧T' 5 = .int .i64 x31∧T' 12=v10∧T' 13 = .int .i64 (x1.order.length:Int)∧T' 14 = .int .i64 y17∧T' 36 = .bool c49∧qc6 d16 y17 rec18 x31 c49=some r) ?_ ?_
 have hF52:=Qg w.heap.size noX M13
 refine Qi <|Qc (Qe (.int .i64 x31) rfl) <|Qc (Zv rfl rfl) <|Qc (Qe (.bool (decide (x31<0))) rfl) ?_
 rcases ic hz with ⟨hc53,hz⟩ | ⟨hc53,hz⟩<;>rw [hc53]
 refine Q2 16 rfl ?_
 refine Qf (Qa ?_)
 exact ⟨M13,true,hF52,hS,hT14_1,hT14_3,rfl,hT14_12,hT14_13,hT14_14,rfl,hz⟩
 refine Qk rfl rfl (Qe (.int .i64 x31) rfl) <|Qk rfl rfl (Vd rfl rfl) <|Q2 2 rfl ?_
 rcases ic hz with ⟨hc54,hz⟩ | ⟨hc54,hz⟩<;>rw [hc54]
 refine Q2 12 rfl ?_
 refine Qf (Qa ?_)
 exact ⟨M13,true,hF52,hS,hT14_1,hT14_3,rfl,hT14_12,hT14_13,hT14_14,rfl,hz⟩
 refine Qk rfl rfl (Qe (.int .i64 x31) rfl) ?_
 obtain ⟨u55,hx56,hz⟩:=Qb hz
 obtain ⟨hx56a,hx56b⟩:=Qw hx56
 refine Qk rfl rfl (Ze Jn hT14_3 rfl hx56a hx56b) ?_
 obtain ⟨x57,hx58,hz⟩:=Qb hz
 refine Qk rfl rfl (Qm (.bool x57) Jl rfl (hS.bvB 0 rfl) (vp (k:=1) rfl rfl (rr hb15) hx58)) <|Q2 2 rfl ?_
 rcases ic hz with ⟨hc59,hz⟩ | ⟨hc59,hz⟩<;>rw [hc59]
 refine Q2 7 rfl ?_
 refine Qf (Qa ?_)
 exact ⟨M13,true,hF52,hS,hT14_1,hT14_3,rfl,hT14_12,hT14_13,hT14_14,rfl,hz⟩
 refine Qk rfl rfl (Qe (.int .i64 x31) rfl) <|Qk rfl rfl (Qp V5 hT14_1) ?_
 obtain ⟨u60,hx61,hz⟩:=Qb hz
 obtain ⟨hx61a,hx61b⟩:=Qw hx61
 refine Qk rfl rfl (Ze q3m rfl rfl hx61a hx61b) <|Qk rfl rfl (Qp Y6 rfl) ?_
 obtain ⟨x62,hx63,hz⟩:=Qb hz
 refine Qk rfl rfl (Qm (.int .i64 x62.state) Yb rfl (hS.bvB 1 rfl) (Yc (vp (k:=6) rfl rfl (Q5 (rr hcx1)) hx63))) <|Qk rfl rfl (Yl rfl rfl) <|Qc (Zi (.bool (x62.state != 3)) rfl rfl) ?_
 refine Qf (Qa ?_)
 exact ⟨M13,(x62.state != 3),hF52,hS,hT14_1,hT14_3,rfl,hT14_12,hT14_13,hT14_14,rfl,hz⟩
 rintro T48 w46 ⟨M47,c49,hx50,hS,hT48_1,hT48_3,hT48_5,hT48_12,hT48_13,hT48_14,hT48_36,hz⟩
 replace hF45:=Qd hF45 hx50
 rw [qc6] at hz
 refine Qr hT48_36 (fun hc51 => ?_) (fun hc51 => ?_)
 replace hz:=Qn hz hc51
 refine Qh <|Qi <|Qc (Qj (.bool false) rfl) ?_
 refine Qf (Qa ?_)
 cases hz
 exact Q4 (Qq (Zb (Qq (Qq (Zb (Qq (Yg rfl rfl ⟨rfl,(Ql (Ql hS)).kept⟩)))))))
 replace hz:=Qo hz hc51
 refine Qt (Qa ?_)
 exact ⟨M47,hF45,hS,hT48_1,hT48_3,hT48_5,hT48_12,hT48_13,hT48_14,hz⟩
 rintro T34 w32 ⟨M33,hx35,hS,hT34_1,hT34_3,hT34_5,hT34_12,hT34_13,hT34_14,hz⟩
 replace hb15:=Rep.mono hx35.1 hb15
 replace hF29:=Qd hF29 hx35
 rw [qht] at hz
 refine Qi <|Qc (Qe (.int .i64 x31) hT34_5) ?_
 obtain ⟨u36,hx37,hz⟩:=Qb hz
 obtain ⟨hx37a,hx37b⟩:=Qw hx37
 refine Qc (Ze Jn hT34_3 rfl hx37a hx37b) ?_
 obtain ⟨x40,hx41,hz⟩:=Qb hz
 obtain ⟨a42,hx43,hz⟩:=Qb hz
 obtain ⟨d44,hd39,hz⟩:=Qb hz
 refine Qs (Q8 0 1 hS rfl hb15 rfl rfl (rb true:rep M33 _ _) rfl rfl (vu (k:=1) rfl rfl (rr hb15) (Lf (vp (k:=1) rfl rfl (rr hb15) hx41) (rb true:rep M33 _ _)) hx43) hd39 ?_)
 intro cs39 w38 hb39 ha39 hs39 hS
 refine Qf (Za ?_)
 refine (Qa ?_)
 exact ⟨M33,cs39,d44,hF29,hS,hb39,hT34_1,hT34_3,hT34_12,hT34_13,hT34_14,hz⟩
 rintro T25 w23 ⟨M24,cs26,d27,hx28,hS,hb26,hT25_1,hT25_3,hT25_12,hT25_13,hT25_14,hz⟩
 replace hF20:=Qd hF20 hx28
 rw [qhs] at hz
 refine Qi <|Qc (Zz hT25_14 rfl) <|Qc (Qe (.int .i64 (IntKind.wrap .i64 (y17+1))) rfl) ?_
 refine Qf (Qa ?_)
 exact ⟨M24,cs26,d27,(IntKind.wrap .i64 (y17+1)),hF20,hS,hb26,hT25_1,hT25_3,hT25_12,hT25_13,rfl,(by rw [← hrec18];exact hz)⟩
 replace hz:=Qo hz hc22
 refine Zq <|Qy <|Qy <|Zs ?_
 refine (Qa ?_)
 refine Qh <|Qh <|Qi <|Qc (Qp V5 hT14_1) ?_
 have ha64:=(Q5 (rr hcx1))
 refine Qc (Zf zat rfl (hS.bvB 1 rfl) (Rep.len ha64)) <|Qc (Qe (.int .i64 0) rfl) ?_
 refine Qf (Qa ?_)
 refine Qv ?_
 refine Zw (fun k70 T' w' => ∃ M66 y68,Mm.ext w.heap.size noX M13 M66∧St w noX M66 [.box b6 cs15 58,.box b3 cx1 34] w'∧T' 3 = .pointer (some ⟨b6,0,none⟩)∧T' 41 = .agg (sl cx1 (0+0) 192).toArray∧T' 42 = .int .i64 y68∧qb8 fu x1 d16 k70 y68=some r) fu ?_ ?_ ?_
 exact ⟨M13,(0:Int),(Qg _ _ _),hS,hT14_3,rfl,rfl,hz⟩
 rintro T' w' ⟨_,_,_,_,_,_,_,hz⟩
 rw [qb8] at hz
 cases hz
 intro k70
 rintro T67 w65 ⟨M66,y68,hx72,hS,hT67_3,hT67_41,hT67_42,hz⟩
 replace hb15:=Rep.mono hx72.1 hb15
 replace ha64:=Rep.mono hx72.1 ha64
 have hF71:=hx72
 rw [qb8] at hz
 obtain ⟨rec69,hrec69⟩ : ∃ f,f=qb8 fu x1 d16 k70:=⟨_,rfl⟩
 rw [← hrec69] at hz
 refine Qh <|Qi <|Qc (Zv hT67_42 rfl) ?_
 refine Qf (Qa ?_)
 refine Qh ?_
 refine Qr rfl (fun hc73 => ?_) (fun hc73 => ?_)
 replace hz:=Qn hz hc73
 refine Qt (Qa ?_)
 refine Q0 (fun T' w' => ∃ M75,Mm.ext w.heap.size noX M66 M75∧St w noX M75 [.box b6 cs15 58,.box b3 cx1 34] w'∧T' 3 = .pointer (some ⟨b6,0,none⟩)∧T' 41 = .agg (sl cx1 (0+0) 192).toArray∧T' 42 = .int .i64 y68∧qc7 y68 rec69=some r) ?_ ?_
 have hF78:=Qg w.heap.size noX M66
 refine Qv <|Qh <|Qi <|Qc (Qe (.int .i64 y68) hT67_42) ?_
 obtain ⟨x79,hx80,hz⟩:=Qb hz
 obtain ⟨hx80a,hx80b,hx80⟩:=qoh ha64 hx80
 replace hx80:rep _ (sl (sl cx1 (0+0) 192) (Int.toNat y68*6) 6) x79:=hx80
 refine Qc (q0i zau hT67_41 hT67_42 hx80a hx80b) ?_
 refine Qs (Zg q68 hS ?_)
 intro b82 w81 hb82 hS
 have zb82:rep M66 (Zr.zc GEntry) (Zr.zd:GEntry):=Zr.zr
 refine Qc (Qj (.int .i64 y68) rfl) ?_
 obtain ⟨d85,hd84,hz⟩:=Qb hz
 refine Qs (Q8 0 6 hS rfl zb82 rfl rfl hx80 rfl rfl (Lf (rr zb82) hx80) hd84 ?_)
 intro cs84 w83 hb84 ha84 hs84 hS
 refine Qf (Qa ?_)
 refine Q0 (fun T' w' => ∃ M87,Mm.ext w.heap.size noX M66 M87∧St w noX M87 [.box b82 cs84 30,.box b6 cs15 58,.box b3 cx1 34] w'∧T' 3 = .pointer (some ⟨b6,0,none⟩)∧T' 6 = .int .i64 y68∧T' 7 = .pointer (some ⟨b82,0,none⟩)∧T' 41 = .agg (sl cx1 (0+0) 192).toArray∧T' 42 = .int .i64 y68∧qhw fu y68 rec69 d85=some r) ?_ ?_
 have hF200:=Qg w.heap.size noX M66
 refine Q0 (fun T' w' => ∃ M202 c204,Mm.ext w.heap.size noX M66 M202∧St w noX M202 [.box b82 cs84 30,.box b6 cs15 58,.box b3 cx1 34] w'∧T' 3 = .pointer (some ⟨b6,0,none⟩)∧T' 6 = .int .i64 y68∧T' 7 = .pointer (some ⟨b82,0,none⟩)∧T' 41 = .agg (sl cx1 (0+0) 192).toArray∧T' 42 = .int .i64 y68∧T' 62 = .bool c204∧qcc fu y68 rec69 d85 c204=some r) ?_ ?_
 have hF207:=Qg w.heap.size noX M66
 refine Yu [.box b82 cs84 30,.box b6 cs15 58] [] Ya hS fun w208 hS hG209 hR210=>wy 0 rfl (Qp Y6 rfl) (fun _=>hR210) <|Y8 1 rfl (Qm (.int .i64 d85.state) Yb rfl (Yp 0 rfl) (Yc (rr hb84))) hR210 <|wy 2 rfl (Zv rfl rfl) (fun _=>hR210) <|wy 3 rfl (Qe (.bool (decide (d85.state<0))) rfl) (fun _=>hR210) ?_
 rcases ic hz with ⟨hc211,hz⟩ | ⟨hc211,hz⟩<;>rw [hc211]
 refine Yj 4 (j:=3) rfl rfl rfl rfl (fun _=>hR210) <|Yj 5 (j:=3) rfl rfl rfl rfl (fun _=>hR210) <|Yj 6 (j:=3) rfl rfl rfl rfl (fun _=>hR210) <|wy 7 rfl (Zy (.bool true) rfl rfl) (fun _=>hR210) <|wy 8 rfl (Qe (.bool true) rfl) (fun _=>hR210) <|Yj 9 (j:=8) rfl rfl rfl rfl (fun _=>hR210) <|Yj 10 (j:=8) rfl rfl rfl rfl (fun _=>hR210) <|Yj 11 (j:=8) rfl rfl rfl rfl (fun _=>hR210) <|Yj 12 (j:=8) rfl rfl rfl rfl (fun _=>hR210) <|Yj 13 (j:=8) rfl rfl rfl rfl (fun _=>hR210) <|Yj 14 (j:=8) rfl rfl rfl rfl (fun _=>hR210) <|Yj 15 (j:=8) rfl rfl rfl rfl (fun _=>hR210) <|wy 16 rfl (Zy (.bool true) rfl rfl) (fun _=>hR210) ?_
 refine wd (Qa ?_)
 exact ⟨M66,true,hF207,hS,hT67_3,rfl,rfl,hT67_41,hT67_42,rfl,hz⟩
 refine V4 4 rfl rfl rfl (Qp Y6 rfl) (fun _=>hR210) <|K6 5 rfl rfl rfl (Qm (.int .i64 d85.state) Yb rfl (Yp 0 rfl) (Yc (rr hb84))) hR210 <|V4 6 rfl rfl rfl (Yr rfl rfl) (fun _=>hR210) <|wy 7 rfl (Zi (.bool (decide (d85.state>3))) rfl rfl) (fun _=>hR210) <|wy 8 rfl (Qe (.bool (decide (d85.state>3))) rfl) (fun _=>hR210) ?_
 rcases ic hz with ⟨hc212,hz⟩ | ⟨hc212,hz⟩<;>rw [hc212]
 refine Yj 9 (j:=8) rfl rfl rfl rfl (fun _=>hR210) <|Yj 10 (j:=8) rfl rfl rfl rfl (fun _=>hR210) <|Yj 11 (j:=8) rfl rfl rfl rfl (fun _=>hR210) <|Yj 12 (j:=8) rfl rfl rfl rfl (fun _=>hR210) <|Yj 13 (j:=8) rfl rfl rfl rfl (fun _=>hR210) <|Yj 14 (j:=8) rfl rfl rfl rfl (fun _=>hR210) <|Yj 15 (j:=8) rfl rfl rfl rfl (fun _=>hR210) <|wy 16 rfl (Zy (.bool true) rfl rfl) (fun _=>hR210) ?_
 refine wd (Qa ?_)
 exact ⟨M66,true,hF207,hS,hT67_3,rfl,rfl,hT67_41,hT67_42,rfl,hz⟩
 refine V4 9 rfl rfl rfl (Qp Y6 rfl) (fun _=>hR210) <|K6 10 rfl rfl rfl (Qm (.int .i64 d85.state) Yb rfl (Yp 0 rfl) (Yc (rr hb84))) hR210 <|V4 11 rfl rfl rfl (Yd rfl rfl) (fun _=>hR210) <|V4 12 rfl rfl rfl (Qe (.int .i64 y68) rfl) (fun _=>hR210) ?_
 obtain ⟨u213,hx214,hz⟩:=Qb hz
 obtain ⟨hx214a,hx214b⟩:=Qw hx214
 refine V4 13 rfl rfl rfl (Ze Jn hT67_3 rfl hx214a hx214b) (fun _=>hR210) ?_
 obtain ⟨x215,hx216,hz⟩:=Qb hz
 refine K6 14 rfl rfl rfl (Qm (.bool x215) Jl rfl (Yp 1 rfl) (vp (k:=1) rfl rfl (rr hb15) hx216)) hR210 <|V4 15 rfl rfl rfl (q5m rfl rfl K0) (fun _=>hR210) <|wy 16 rfl (Zi (.bool (!((d85.state==3)==x215))) rfl rfl) (fun _=>hR210) ?_
 refine wd (Qa ?_)
 exact ⟨M66,(!((d85.state==3)==x215)),hF207,hS,hT67_3,rfl,rfl,hT67_41,hT67_42,rfl,hz⟩
 rintro T203 w201 ⟨M202,c204,hx205,hS,hT203_3,hT203_6,hT203_7,hT203_41,hT203_42,hT203_62,hz⟩
 replace hF200:=Qd hF200 hx205
 rw [qcc] at hz
 refine Qr hT203_62 (fun hc206 => ?_) (fun hc206 => ?_)
 replace hz:=Qn hz hc206
 refine Qh <|Qi <|Qc (Qj (.bool false) rfl) ?_
 refine Qf (Qa ?_)
 cases hz
 exact Q4 (Qq (Zb (Qq (Qq (Zb (Qq (Yg rfl rfl ⟨rfl,(Ql (Ql (Ql hS))).kept⟩)))))))
 replace hz:=Qo hz hc206
 refine Qt (Qa ?_)
 exact ⟨M202,hF200,hS,hT203_3,hT203_6,hT203_7,hT203_41,hT203_42,hz⟩
 rintro T88 w86 ⟨M87,hx89,hS,hT88_3,hT88_6,hT88_7,hT88_41,hT88_42,hz⟩
 replace hb84:=Rep.mono hx89.1 hb84
 replace hF78:=Qd hF78 hx89
 rw [qhw] at hz
 refine Qh <|Qh <|Qi <|Qc (Qp Y6 hT88_7) <|Qc (Qm (.int .i64 d85.state) Yb rfl (hS.bvB 0 rfl) (Yc (rr hb84))) <|Qc (Yd rfl rfl) ?_
 refine Qf (Qa ?_)
 refine Qr rfl (fun hc90 => ?_) (fun hc90 => ?_)
 replace hz:=Qn hz hc90
 refine Qh <|Qh <|Qi <|Qc (Qp K7 hT88_7) ?_
 obtain ⟨v91,ev91,hv91⟩:=(Vs (rr hb84))
 refine Qc (Qm v91 Vp rfl (hS.bvB 0 rfl) ev91) ?_
 obtain ⟨a92,c92,hv92,_⟩:=Q3 hv91
 refine Qc (Zj Z7 (Vv hv92 rfl)) <|Qc (Qp qon hT88_7) ?_
 obtain ⟨v93,ev93,hv93⟩:=(Kc (rr hb84))
 refine Qc (Qm v93 Z4 rfl (hS.bvB 0 rfl) ev93) ?_
 obtain ⟨a94,c94,hv94,_⟩:=Q3 hv93
 refine Qc (Zj Qu (Vv hv94 rfl)) <|Qc (Zz rfl rfl) <|Qc (Qp Jo hT88_7) ?_
 obtain ⟨v95,ev95,hv95⟩:=(Vx (rr hb84))
 refine Qc (Qm v95 Z4 rfl (hS.bvB 0 rfl) ev95) ?_
 obtain ⟨a96,c96,hv96,_⟩:=Q3 hv95
 refine Qc (Zj Qu (Vv hv96 rfl)) <|Qc (Zz rfl rfl) <|Qc (Qp Vo hT88_7) ?_
 obtain ⟨v97,ev97,hv97⟩:=(Yh (rr hb84))
 refine Qc (Qm v97 Z4 rfl (hS.bvB 0 rfl) ev97) ?_
 obtain ⟨a98,c98,hv98,_⟩:=Q3 hv97
 refine Qc (Zj Qu (Vv hv98 rfl)) <|Qc (Zz rfl rfl) <|Qc (Qp V6 hT88_7) ?_
 obtain ⟨v99,ev99,hv99⟩:=(Yt (rr hb84))
 refine Qc (Qm v99 Z4 rfl (hS.bvB 0 rfl) ev99) ?_
 obtain ⟨a100,c100,hv100,_⟩:=Q3 hv99
 refine Qc (Zj Qu (Vv hv100 rfl)) <|Qc (Zz rfl rfl) <|Qc (Yr rfl rfl) ?_
 refine Qf (Qa ?_)
 refine Qr rfl (fun hc101 => ?_) (fun hc101 => ?_)
 replace hz:=Qn hz hc101
 refine Qh <|Qi <|Qc (Qj (.bool false) rfl) ?_
 refine Qf (Qa ?_)
 cases hz
 exact Q4 (Qq (Qq (Zb (Qq (Qq (Zb (Qq (Yg rfl rfl ⟨rfl,(Ql (Ql (Ql hS))).kept⟩))))))))
 replace hz:=Qo hz hc101
 refine Qt (Qa ?_)
 refine Zq <|Qy <|Zs ?_
 refine (Qa ?_)
 exact ⟨M87,hF78,(Y2 hS hb82),hT88_3,hT88_41,hT88_42,hz⟩
 replace hz:=Qo hz hc90
 refine Qt (Qa ?_)
 refine Q0 (fun T' w' => ∃ M103,Mm.ext w.heap.size noX M87 M103∧St w noX M103 [.box b82 cs84 30,.box b6 cs15 58,.box b3 cx1 34] w'∧T' 3 = .pointer (some ⟨b6,0,none⟩)∧T' 7 = .pointer (some ⟨b82,0,none⟩)∧T' 41 = .agg (sl cx1 (0+0) 192).toArray∧T' 42 = .int .i64 y68∧qhv fu y68 rec69 d85=some r) ?_ ?_
 have hF139:=Qg w.heap.size noX M87
 refine Q0 (fun T' w' => ∃ M141 c143,Mm.ext w.heap.size noX M87 M141∧St w noX M141 [.box b82 cs84 30,.box b6 cs15 58,.box b3 cx1 34] w'∧T' 3 = .pointer (some ⟨b6,0,none⟩)∧T' 7 = .pointer (some ⟨b82,0,none⟩)∧T' 41 = .agg (sl cx1 (0+0) 192).toArray∧T' 42 = .int .i64 y68∧T' 144 = .bool c143∧qba fu y68 rec69 d85 c143=some r) ?_ ?_
 have hF146:=Qg w.heap.size noX M87
 refine Qi <|Qc (Qp K7 hT88_7) ?_
 obtain ⟨v147,ev147,hv147⟩:=(Vs (rr hb84))
 refine Qc (Qm v147 Vp rfl (hS.bvB 0 rfl) ev147) ?_
 obtain ⟨r150,hr149,hz⟩:=Qb hz
 replace hr149:=Option.some.inj hr149
 refine Qs (Z6 (vs:=[v147]) (v := .bool r150) q9o (Zu rfl) hS (hr149 ▸ (qla hS.agree hv147)) ?_)
 intro w148 hS
 refine Qc (Ye rfl) <|Qc (Qe (.bool (!r150)) rfl) ?_
 rcases ic hz with ⟨hc151,hz⟩ | ⟨hc151,hz⟩<;>rw [hc151]
 refine Q2 54 rfl ?_
 refine Qf (Qa ?_)
 exact ⟨M87,true,hF146,hS,hT88_3,hT88_7,hT88_41,hT88_42,rfl,hz⟩
 refine Qk rfl rfl (Qp qon hT88_7) ?_
 obtain ⟨v152,ev152,hv152⟩:=(Kc (rr hb84))
 refine Qk rfl rfl (Qm v152 Z4 rfl (hS.bvB 0 rfl) ev152) ?_
 obtain ⟨r155,hr154,hz⟩:=Qb hz
 replace hr154:=Option.some.inj hr154
 refine Kf rfl rfl (Z6 (vs:=[v152]) (v := .bool r155) q6g (Zu rfl) hS (hr154 ▸ (Kq hS.agree hv152)) ?_)
 intro w153 hS
 refine Qk rfl rfl (Ye rfl) <|Q2 2 rfl ?_
 rcases ic hz with ⟨hc156,hz⟩ | ⟨hc156,hz⟩<;>rw [hc156]
 refine Q2 48 rfl ?_
 refine Qf (Qa ?_)
 exact ⟨M87,true,hF146,hS,hT88_3,hT88_7,hT88_41,hT88_42,rfl,hz⟩
 refine Qk rfl rfl (Qp Jo hT88_7) ?_
 obtain ⟨v157,ev157,hv157⟩:=(Vx (rr hb84))
 refine Qk rfl rfl (Qm v157 Z4 rfl (hS.bvB 0 rfl) ev157) ?_
 obtain ⟨r160,hr159,hz⟩:=Qb hz
 replace hr159:=Option.some.inj hr159
 refine Kf rfl rfl (Z6 (vs:=[v157]) (v := .bool r160) q6g (Zu rfl) hS (hr159 ▸ (Kq hS.agree hv157)) ?_)
 intro w158 hS
 refine Qk rfl rfl (Ye rfl) <|Q2 2 rfl ?_
 rcases ic hz with ⟨hc161,hz⟩ | ⟨hc161,hz⟩<;>rw [hc161]
 refine Q2 42 rfl ?_
 refine Qf (Qa ?_)
 exact ⟨M87,true,hF146,hS,hT88_3,hT88_7,hT88_41,hT88_42,rfl,hz⟩
 refine Qk rfl rfl (Qp qon hT88_7) ?_
 obtain ⟨v162,ev162,hv162⟩:=(Kc (rr hb84))
 refine Qk rfl rfl (Qm v162 Z4 rfl (hS.bvB 0 rfl) ev162) <|Qk rfl rfl (Qe (.int .i64 y68) hT88_6) ?_
 obtain ⟨r165,hr164,hz⟩:=Qb hz
 replace hr164:=Option.some.inj hr164
 refine Kf rfl rfl (Z6 (vs:=[v162,.int .i64 y68]) (v := .bool r165) q5c (Z8 rfl rfl) hS (hr164 ▸ (Vq hS.agree hv162)) ?_)
 intro w163 hS
 refine Q2 2 rfl ?_
 rcases ic hz with ⟨hc166,hz⟩ | ⟨hc166,hz⟩<;>rw [hc166]
 refine Q2 36 rfl ?_
 refine Qf (Qa ?_)
 exact ⟨M87,true,hF146,hS,hT88_3,hT88_7,hT88_41,hT88_42,rfl,hz⟩
 refine Qk rfl rfl (Qp Jo hT88_7) ?_
 obtain ⟨v167,ev167,hv167⟩:=(Vx (rr hb84))
 refine Qk rfl rfl (Qm v167 Z4 rfl (hS.bvB 0 rfl) ev167) <|Qk rfl rfl (Qe (.int .i64 y68) hT88_6) ?_
 obtain ⟨r170,hr169,hz⟩:=Qb hz
 replace hr169:=Option.some.inj hr169
 refine Kf rfl rfl (Z6 (vs:=[v167,.int .i64 y68]) (v := .bool r170) q5c (Z8 rfl rfl) hS (hr169 ▸ (Vq hS.agree hv167)) ?_)
 intro w168 hS
 refine Q2 2 rfl ?_
 rcases ic hz with ⟨hc171,hz⟩ | ⟨hc171,hz⟩<;>rw [hc171]
 refine Q2 30 rfl ?_
 refine Qf (Qa ?_)
 exact ⟨M87,true,hF146,hS,hT88_3,hT88_7,hT88_41,hT88_42,rfl,hz⟩
 refine Qk rfl rfl (Qp Y6 hT88_7) <|Qk rfl rfl (Qm (.int .i64 d85.state) Yb rfl (hS.bvB 0 rfl) (Yc (rr hb84))) <|Qk rfl rfl (Yd rfl rfl) <|Qk rfl rfl (Qe (.bool (d85.state==1)) rfl) ?_
 rcases ic hz with ⟨hc172,hz⟩ | ⟨hc172,hz⟩<;>rw [hc172]
 refine Qk rfl rfl (Qp Jo hT88_7) ?_
 obtain ⟨v173,ev173,hv173⟩:=(Vx (rr hb84))
 refine Qk rfl rfl (Qm v173 Z4 rfl (hS.bvB 0 rfl) ev173) ?_
 obtain ⟨a174,c174,hv174,_⟩:=Q3 hv173
 refine Qk rfl rfl (Zj Qu (Vv hv174 rfl)) <|Qk rfl rfl (Yr rfl rfl) <|Q2 3 rfl ?_
 rcases ic hz with ⟨hc175,hz⟩ | ⟨hc175,hz⟩<;>rw [hc175]
 refine Q2 19 rfl ?_
 refine Qf (Qa ?_)
 exact ⟨M87,true,hF146,hS,hT88_3,hT88_7,hT88_41,hT88_42,rfl,hz⟩
 refine Qk rfl rfl (Qp Y6 hT88_7) <|Qk rfl rfl (Qm (.int .i64 d85.state) Yb rfl (hS.bvB 0 rfl) (Yc (rr hb84))) <|Qk rfl rfl (Yl rfl rfl) <|Qk rfl rfl (Qe (.bool (d85.state != 3)) rfl) ?_
 rcases ic hz with ⟨hc176,hz⟩ | ⟨hc176,hz⟩<;>rw [hc176]
 refine Qk rfl rfl (Qp Vo hT88_7) ?_
 obtain ⟨v177,ev177,hv177⟩:=(Yh (rr hb84))
 refine Qk rfl rfl (Qm v177 Z4 rfl (hS.bvB 0 rfl) ev177) ?_
 obtain ⟨a178,c178,hv178,_⟩:=Q3 hv177
 refine Qk rfl rfl (Zj Qu (Vv hv178 rfl)) <|Qk rfl rfl (Yr rfl rfl) <|Q2 3 rfl ?_
 rcases ic hz with ⟨hc179,hz⟩ | ⟨hc179,hz⟩<;>rw [hc179]
 refine Q2 8 rfl ?_
 refine Qf (Qa ?_)
 exact ⟨M87,true,hF146,hS,hT88_3,hT88_7,hT88_41,hT88_42,rfl,hz⟩
 refine Qk rfl rfl (Qp Vo hT88_7) ?_
 obtain ⟨v180,ev180,hv180⟩:=(Yh (rr hb84))
 refine Qk rfl rfl (Qm v180 Z4 rfl (hS.bvB 0 rfl) ev180) ?_
 obtain ⟨a181,c181,hv181,_⟩:=Q3 hv180
 refine Qk rfl rfl (Zj Qu (Vv hv181 rfl)) <|Qk rfl rfl (Qp V6 hT88_7) ?_
 obtain ⟨v182,ev182,hv182⟩:=(Yt (rr hb84))
 refine Qk rfl rfl (Qm v182 Z4 rfl (hS.bvB 0 rfl) ev182) ?_
 obtain ⟨a183,c183,hv183,_⟩:=Q3 hv182
 refine Qk rfl rfl (Zj Qu (Vv hv183 rfl)) <|Qk rfl rfl (Yl rfl rfl) <|Qc (Zi (.bool ((d85.at_.length:Int) != (d85.values.length:Int))) rfl rfl) ?_
 refine Qf (Qa ?_)
 exact ⟨M87,((d85.at_.length:Int) != (d85.values.length:Int)),hF146,hS,hT88_3,hT88_7,hT88_41,hT88_42,rfl,hz⟩
 refine Q2 7 rfl <|Qk rfl rfl (Qp Vo hT88_7) ?_
 obtain ⟨v184,ev184,hv184⟩:=(Yh (rr hb84))
 refine Qk rfl rfl (Qm v184 Z4 rfl (hS.bvB 0 rfl) ev184) ?_
 obtain ⟨a185,c185,hv185,_⟩:=Q3 hv184
 refine Qk rfl rfl (Zj Qu (Vv hv185 rfl)) <|Qk rfl rfl (Qp V6 hT88_7) ?_
 obtain ⟨v186,ev186,hv186⟩:=(Yt (rr hb84))
 refine Qk rfl rfl (Qm v186 Z4 rfl (hS.bvB 0 rfl) ev186) ?_
 obtain ⟨a187,c187,hv187,_⟩:=Q3 hv186
 refine Qk rfl rfl (Zj Qu (Vv hv187 rfl)) <|Qk rfl rfl (Yl rfl rfl) <|Qc (Zi (.bool ((d85.at_.length:Int) != (d85.values.length:Int))) rfl rfl) ?_
 refine Qf (Qa ?_)
 exact ⟨M87,((d85.at_.length:Int) != (d85.values.length:Int)),hF146,hS,hT88_3,hT88_7,hT88_41,hT88_42,rfl,hz⟩
 refine Q2 7 rfl <|Qk rfl rfl (Qp Y6 hT88_7) <|Qk rfl rfl (Qm (.int .i64 d85.state) Yb rfl (hS.bvB 0 rfl) (Yc (rr hb84))) <|Qk rfl rfl (Yl rfl rfl) <|Qk rfl rfl (Qe (.bool (d85.state != 3)) rfl) ?_
 rcases ic hz with ⟨hc188,hz⟩ | ⟨hc188,hz⟩<;>rw [hc188]
 refine Qk rfl rfl (Qp Vo hT88_7) ?_
 obtain ⟨v189,ev189,hv189⟩:=(Yh (rr hb84))
 refine Qk rfl rfl (Qm v189 Z4 rfl (hS.bvB 0 rfl) ev189) ?_
 obtain ⟨a190,c190,hv190,_⟩:=Q3 hv189
 refine Qk rfl rfl (Zj Qu (Vv hv190 rfl)) <|Qk rfl rfl (Yr rfl rfl) <|Q2 3 rfl ?_
 rcases ic hz with ⟨hc191,hz⟩ | ⟨hc191,hz⟩<;>rw [hc191]
 refine Q2 8 rfl ?_
 refine Qf (Qa ?_)
 exact ⟨M87,true,hF146,hS,hT88_3,hT88_7,hT88_41,hT88_42,rfl,hz⟩
 refine Qk rfl rfl (Qp Vo hT88_7) ?_
 obtain ⟨v192,ev192,hv192⟩:=(Yh (rr hb84))
 refine Qk rfl rfl (Qm v192 Z4 rfl (hS.bvB 0 rfl) ev192) ?_
 obtain ⟨a193,c193,hv193,_⟩:=Q3 hv192
 refine Qk rfl rfl (Zj Qu (Vv hv193 rfl)) <|Qk rfl rfl (Qp V6 hT88_7) ?_
 obtain ⟨v194,ev194,hv194⟩:=(Yt (rr hb84))
 refine Qk rfl rfl (Qm v194 Z4 rfl (hS.bvB 0 rfl) ev194) ?_
 obtain ⟨a195,c195,hv195,_⟩:=Q3 hv194
 refine Qk rfl rfl (Zj Qu (Vv hv195 rfl)) <|Qk rfl rfl (Yl rfl rfl) <|Qc (Zi (.bool ((d85.at_.length:Int) != (d85.values.length:Int))) rfl rfl) ?_
 refine Qf (Qa ?_)
 exact ⟨M87,((d85.at_.length:Int) != (d85.values.length:Int)),hF146,hS,hT88_3,hT88_7,hT88_41,hT88_42,rfl,hz⟩
 refine Q2 7 rfl <|Qk rfl rfl (Qp Vo hT88_7) ?_
 obtain ⟨v196,ev196,hv196⟩:=(Yh (rr hb84))
 refine Qk rfl rfl (Qm v196 Z4 rfl (hS.bvB 0 rfl) ev196) ?_
 obtain ⟨a197,c197,hv197,_⟩:=Q3 hv196
 refine Qk rfl rfl (Zj Qu (Vv hv197 rfl)) <|Qk rfl rfl (Qp V6 hT88_7) ?_
 obtain ⟨v198,ev198,hv198⟩:=(Yt (rr hb84))
 refine Qk rfl rfl (Qm v198 Z4 rfl (hS.bvB 0 rfl) ev198) ?_
 obtain ⟨a199,c199,hv199,_⟩:=Q3 hv198
 refine Qk rfl rfl (Zj Qu (Vv hv199 rfl)) <|Qk rfl rfl (Yl rfl rfl) <|Qc (Zi (.bool ((d85.at_.length:Int) != (d85.values.length:Int))) rfl rfl) ?_
 refine Qf (Qa ?_)
 exact ⟨M87,((d85.at_.length:Int) != (d85.values.length:Int)),hF146,hS,hT88_3,hT88_7,hT88_41,hT88_42,rfl,hz⟩
 rintro T142 w140 ⟨M141,c143,hx144,hS,hT142_3,hT142_7,hT142_41,hT142_42,hT142_144,hz⟩
 replace hF139:=Qd hF139 hx144
 rw [qba] at hz
 refine Qr hT142_144 (fun hc145 => ?_) (fun hc145 => ?_)
 replace hz:=Qn hz hc145
 refine Qh <|Qi <|Qc (Qj (.bool false) rfl) ?_
 refine Qf (Qa ?_)
 cases hz
 exact Q4 (Qq (Zb (Qq (Qq (Zb (Qq (Yg rfl rfl ⟨rfl,(Ql (Ql (Ql hS))).kept⟩)))))))
 replace hz:=Qo hz hc145
 refine Qt (Qa ?_)
 exact ⟨M141,hF139,hS,hT142_3,hT142_7,hT142_41,hT142_42,hz⟩
 rintro T104 w102 ⟨M103,hx105,hS,hT104_3,hT104_7,hT104_41,hT104_42,hz⟩
 replace hb84:=Rep.mono hx105.1 hb84
 replace hF78:=Qd hF78 hx105
 rw [qhv] at hz
 refine Qh <|Qi <|Qc (Qp Vo hT104_7) ?_
 obtain ⟨v106,ev106,hv106⟩:=(Yh (rr hb84))
 refine Qc (Qm v106 Z4 rfl (hS.bvB 0 rfl) ev106) ?_
 obtain ⟨a107,c107,hv107,_⟩:=Q3 hv106
 refine Qc (Zj Qu (Vv hv107 rfl)) <|Qc (Qe (.int .i64 0) rfl) ?_
 refine Qf (Qa ?_)
 refine Qv ?_
 refine Zw (fun k113 T' w' => ∃ M109 y111,Mm.ext w.heap.size noX M103 M109∧St w noX M109 [.box b82 cs84 30,.box b6 cs15 58,.box b3 cx1 34] w'∧T' 3 = .pointer (some ⟨b6,0,none⟩)∧T' 7 = .pointer (some ⟨b82,0,none⟩)∧T' 41 = .agg (sl cx1 (0+0) 192).toArray∧T' 42 = .int .i64 y68∧T' 146=v106∧T' 147 = .int .i64 (d85.at_.length:Int)∧T' 148 = .int .i64 y111∧qbn y68 rec69 d85 k113 y111=some r) fu ?_ ?_ ?_
 exact ⟨M103,(0:Int),(Qg _ _ _),hS,hT104_3,hT104_7,hT104_41,hT104_42,rfl,rfl,rfl,hz⟩
 rintro T' w' ⟨_,_,_,_,_,_,_,_,_,_,_,hz⟩
 rw [qbn] at hz
 cases hz
 intro k113
 rintro T110 w108 ⟨M109,y111,hx115,hS,hT110_3,hT110_7,hT110_41,hT110_42,hT110_146,hT110_147,hT110_148,hz⟩
 replace hb84:=Rep.mono hx115.1 hb84
 replace hv106:=Qz hx115.1 hv106
 replace hF78:=Qd hF78 hx115
 have hF114:=hx115
 rw [qbn] at hz
 obtain ⟨rec112,hrec112⟩ : ∃ f,f=qbn y68 rec69 d85 k113:=⟨_,rfl⟩
 rw [← hrec112] at hz
 refine Qh <|Qi <|Qc (Zv hT110_148 hT110_147) ?_
 refine Qf (Qa ?_)
 refine Qh ?_
 refine Qr rfl (fun hc116 => ?_) (fun hc116 => ?_)
 replace hz:=Qn hz hc116
 refine Qt (Qa ?_)
 refine Q0 (fun T' w' => ∃ M118,Mm.ext w.heap.size noX M109 M118∧St w noX M118 [.box b82 cs84 30,.box b6 cs15 58,.box b3 cx1 34] w'∧T' 3 = .pointer (some ⟨b6,0,none⟩)∧T' 7 = .pointer (some ⟨b82,0,none⟩)∧T' 41 = .agg (sl cx1 (0+0) 192).toArray∧T' 42 = .int .i64 y68∧T' 146=v106∧T' 147 = .int .i64 (d85.at_.length:Int)∧T' 148 = .int .i64 y111∧qhu y111 rec112=some r) ?_ ?_
 have hF121:=Qg w.heap.size noX M109
 refine Qv <|Qh <|Qi <|Qc (Qe (.int .i64 y111) hT110_148) ?_
 obtain ⟨x123,hx122,hz⟩:=Qb hz
 obtain ⟨b122,o122,c122,p122,hv122,hi122,hj122,hM122,hr122⟩:=Yf hv106 hx122
 replace hr122:rep _ (sl p122 (o122+Int.toNat y111*1) 1) x123:=hr122
 refine Qc (Ys V2 hT110_146 hv122 hT110_148 hi122 hj122) <|Qc (Qm (.int .i64 x123) Yb rfl (hS.bvM hM122) hr122) <|Q2 2 rfl ?_
 refine Qf (Qa ?_)
 refine Q0 (fun T' w' => ∃ M125 c127,Mm.ext w.heap.size noX M109 M125∧St w noX M125 [.box b82 cs84 30,.box b6 cs15 58,.box b3 cx1 34] w'∧T' 3 = .pointer (some ⟨b6,0,none⟩)∧T' 7 = .pointer (some ⟨b82,0,none⟩)∧T' 41 = .agg (sl cx1 (0+0) 192).toArray∧T' 42 = .int .i64 y68∧T' 146=v106∧T' 147 = .int .i64 (d85.at_.length:Int)∧T' 148 = .int .i64 y111∧T' 175 = .bool c127∧qdt y111 rec112 c127=some r) ?_ ?_
 have hF130:=Qg w.heap.size noX M109
 refine Qi <|Qc (Qe (.int .i64 x123) rfl) <|Qc (Zv rfl rfl) <|Qc (Qe (.bool (decide (x123<0))) rfl) ?_
 rcases ic hz with ⟨hc131,hz⟩ | ⟨hc131,hz⟩<;>rw [hc131]
 refine Q2 20 rfl ?_
 refine Qf (Qa ?_)
 exact ⟨M109,true,hF130,hS,hT110_3,hT110_7,hT110_41,hT110_42,hT110_146,hT110_147,hT110_148,rfl,hz⟩
 refine Qk rfl rfl (Qe (.int .i64 x123) rfl) <|Qk rfl rfl (Qp K7 hT110_7) ?_
 obtain ⟨v132,ev132,hv132⟩:=(Vs (rr hb84))
 refine Qk rfl rfl (Qm v132 Vp rfl (hS.bvB 0 rfl) ev132) ?_
 obtain ⟨a133,c133,hv133,_⟩:=Q3 hv132
 refine Qk rfl rfl (Zj Z7 (Vv hv133 rfl)) <|Qk rfl rfl (Vd rfl rfl) <|Q2 2 rfl ?_
 rcases ic hz with ⟨hc134,hz⟩ | ⟨hc134,hz⟩<;>rw [hc134]
 refine Q2 13 rfl ?_
 refine Qf (Qa ?_)
 exact ⟨M109,true,hF130,hS,hT110_3,hT110_7,hT110_41,hT110_42,hT110_146,hT110_147,hT110_148,rfl,hz⟩
 refine Qk rfl rfl (Qe (.int .i64 y111) rfl) <|Qk rfl rfl (Yr rfl rfl) <|Qk rfl rfl (Qe (.bool (decide (y111>0))) rfl) ?_
 rcases ic hz with ⟨hc135,hz⟩ | ⟨hc135,hz⟩<;>rw [hc135]
 refine Qk rfl rfl (Qp Vo hT110_7) ?_
 obtain ⟨v136,ev136,hv136⟩:=(Yh (rr hb84))
 refine Qk rfl rfl (Qm v136 Z4 rfl (hS.bvB 0 rfl) ev136) <|Qk rfl rfl (Qe (.int .i64 y111) rfl) <|Qk rfl rfl (Kg rfl rfl) ?_
 obtain ⟨x138,hx137,hz⟩:=Qb hz
 obtain ⟨b137,o137,c137,p137,hv137,hi137,hj137,hM137,hr137⟩:=Yf hv136 hx137
 replace hr137:rep _ (sl p137 (o137+Int.toNat (IntKind.wrap .i64 (y111-1))*1) 1) x138:=hr137
 refine Qk rfl rfl (Ys V2 rfl hv137 rfl hi137 hj137) <|Qk rfl rfl (Qm (.int .i64 x138) Yb rfl (hS.bvM hM137) hr137) <|Qk rfl rfl (Qe (.int .i64 x123) rfl) <|Qk rfl rfl (Vd rfl rfl) <|Q2 2 rfl ?_
 refine Qf (Qa ?_)
 exact ⟨M109,(decide (x138≥x123)),hF130,hS,hT110_3,hT110_7,hT110_41,hT110_42,hT110_146,hT110_147,hT110_148,rfl,hz⟩
 refine Q2 10 rfl ?_
 refine Qf (Qa ?_)
 exact ⟨M109,false,hF130,hS,hT110_3,hT110_7,hT110_41,hT110_42,hT110_146,hT110_147,hT110_148,rfl,hz⟩
 rintro T126 w124 ⟨M125,c127,hx128,hS,hT126_3,hT126_7,hT126_41,hT126_42,hT126_146,hT126_147,hT126_148,hT126_175,hz⟩
 replace hF121:=Qd hF121 hx128
 rw [qdt] at hz
 refine Qr hT126_175 (fun hc129 => ?_) (fun hc129 => ?_)
 replace hz:=Qn hz hc129
 refine Qh <|Qi <|Qc (Qj (.bool false) rfl) ?_
 refine Qf (Qa ?_)
 cases hz
 exact Q4 (Zb (Qq (Qq (Zb (Zb (Qq (Qq (Zb (Qq (Yg rfl rfl ⟨rfl,(Ql (Ql (Ql hS))).kept⟩))))))))))
 replace hz:=Qo hz hc129
 refine Qt (Za ?_)
 refine (Qa ?_)
 exact ⟨M125,hF121,hS,hT126_3,hT126_7,hT126_41,hT126_42,hT126_146,hT126_147,hT126_148,hz⟩
 rintro T119 w117 ⟨M118,hx120,hS,hT119_3,hT119_7,hT119_41,hT119_42,hT119_146,hT119_147,hT119_148,hz⟩
 replace hF114:=Qd hF114 hx120
 rw [qhu] at hz
 refine Qi <|Qc (Zz hT119_148 rfl) <|Qc (Qe (.int .i64 (IntKind.wrap .i64 (y111+1))) rfl) ?_
 refine Qf (Qa ?_)
 exact ⟨M118,(IntKind.wrap .i64 (y111+1)),hF114,hS,hT119_3,hT119_7,hT119_41,hT119_42,hT119_146,hT119_147,rfl,(by rw [← hrec112];exact hz)⟩
 replace hz:=Qo hz hc116
 refine Zq <|Qy <|Qy <|Zs ?_
 refine (Za ?_)
 refine (Qa ?_)
 exact ⟨M109,hF78,(Y2 hS hb82),hT110_3,hT110_41,hT110_42,hz⟩
 rintro T76 w74 ⟨M75,hx77,hS,hT76_3,hT76_41,hT76_42,hz⟩
 replace hF71:=Qd hF71 hx77
 rw [qc7] at hz
 refine Qi <|Qc (Zz hT76_42 rfl) <|Qc (Qe (.int .i64 (IntKind.wrap .i64 (y68+1))) rfl) ?_
 refine Qf (Qa ?_)
 exact ⟨M75,(IntKind.wrap .i64 (y68+1)),hF71,hS,hT76_3,hT76_41,rfl,(by rw [← hrec69];exact hz)⟩
 replace hz:=Qo hz hc73
 refine Zq <|Qy <|Qy <|Zs ?_
 refine (Qa ?_)
 refine Qh <|Qi <|Qc (Qj (.bool true) rfl) ?_
 refine Qf (Qa ?_)
 cases hz
 exact Q4 (Yg rfl rfl ⟨rfl,(Ql (Ql hS)).kept⟩)
def qe8 (y14:Int) (rec15:(List Int)→Int→Option (List Int)) (l23:List Int):Option (List Int) :=
 rec15 l23 (IntKind.wrap .i64 (y14+1))
def qdy (l12:List Int) (y14:Int) (rec15:(List Int)→Int→Option (List Int)) (c37:Bool):Option (List Int) :=
 (bif c37 then
 (app l12 ([y14]:List Int)).bind fun l44 =>
 qe8 y14 rec15 l44
 else
 qe8 y14 rec15 l12)
def qay (x1:GNode) (x2:Int) (x3:List GOp) (x4:Int):Nat→(List Int)→Int→Option (List Int)
 | 0,_,_=>none
 | n+1,l12,y14 =>
 (bif decide (y14<32) then
 (qa7 x1.entries y14).bind fun x27 =>
 (some x27).bind fun d33 =>
 (bif y14 != x2 then
 (bif d33.state != 0 then
 (some (qa3 d33.ops x3 x4)).bind fun r51 =>
 qdy l12 y14 (qay x1 x2 x3 x4 n) r51
 else
 qdy l12 y14 (qay x1 x2 x3 x4 n) false)
 else
 qdy l12 y14 (qay x1 x2 x3 x4 n) false)
 else
 some l12)
def qft (fu:Nat) (x1:GNode) (x2:Int) (x3:List GOp) (x4:Int):Option (List Int) :=
 qay x1 x2 x3 x4 fu ([]:List Int) 0
theorem qm7 {M:Mm} {w:World} {cx1:List Value} {vx3:Value} {x1:GNode} {x2:Int} {x3:List GOp} {x4:Int} {fu:Nat} {r:(List Int)} (hA:Agree M w) (hcx1:rep M cx1 x1) (hvx3:repL M vx3 x3) (hz:qft fu x1 x2 x3 x4=some r) :
    Calls Try.prog 88 #[.agg cx1.toArray,.int .i64 x2,vx3,.int .i64 x4] w (Gives M w (fun M' u=>repL M' u r)):=by
 refine Zh Try.func88 rfl 39 rfl rfl (by kernel_rfl) fun T hT => ?_
 have hT_0:T 0 = .agg cx1.toArray:=hT 0
 have hT_1:T 1 = .int .i64 x2:=hT 1
 have hT_2:T 2=vx3:=hT 2
 have hT_3:T 3 = .int .i64 x4:=hT 3
 clear hT
 have hE:=Qg w.heap.size noX M
 have hS:St w noX M [] w:=Zx hA
 rw [qft] at hz
 refine Qh <|Qi ?_
 refine Qs (Yo (v := .agg cx1.toArray) (cs:=cx1) hT_0 rfl hS ?_)
 intro b6 w5 hb6 hS
 refine Qc (Qj ((.slice none 0 0)) rfl) ?_
 refine Qf (Qa ?_)
 refine Qh <|Qi <|Qc (Qj ((.slice none 0 0)) rfl) ?_
 refine Qf (Qa ?_)
 refine Qh <|Qh <|Qi <|Qc (Qp V5 rfl) ?_
 have ha7:=(Q5 (rr hcx1))
 refine Qc (Zf zat rfl (hS.bvB 0 rfl) (Rep.len ha7)) <|Qc (Qe (.int .i64 0) rfl) ?_
 refine Qf (Qa ?_)
 refine Qv ?_
 replace hS:=hS.nilRow 3 1
 refine Zw (fun k16 T' w' => ∃ M10 v13 l12 y14,Mm.ext w.heap.size noX M M10∧St w noX M10 [.row v13 3 1,.box b6 cx1 34] w'∧repL M10 v13 l12∧T' 1 = .int .i64 x2∧T' 2=vx3∧T' 3 = .int .i64 x4∧T' 9=v13∧T' 13 = .agg (sl cx1 (0+0) 192).toArray∧T' 14 = .int .i64 y14∧qay x1 x2 x3 x4 k16 l12 y14=some r) fu ?_ ?_ ?_
 exact ⟨M,(.slice none 0 0),([]:List Int),(0:Int),(Qg _ _ _),hS,(Z5 _),hT_1,hT_2,hT_3,rfl,rfl,rfl,hz⟩
 rintro T' w' ⟨_,_,_,_,_,_,_,_,_,_,_,_,_,hz⟩
 rw [qay] at hz
 cases hz
 intro k16
 rintro T11 w9 ⟨M10,v13,l12,y14,hx18,hS,hv13,hT11_1,hT11_2,hT11_3,hT11_9,hT11_13,hT11_14,hz⟩
 replace hvx3:=Qz hx18.1 hvx3
 replace ha7:=Rep.mono hx18.1 ha7
 replace hE:=Qd hE hx18
 have hF17:=hx18
 rw [qay] at hz
 obtain ⟨rec15,hrec15⟩ : ∃ f,f=qay x1 x2 x3 x4 k16:=⟨_,rfl⟩
 rw [← hrec15] at hz
 refine Qh <|Qi <|Qc (Zv hT11_14 rfl) ?_
 refine Qf (Qa ?_)
 refine Qh ?_
 refine Qr rfl (fun hc19 => ?_) (fun hc19 => ?_)
 replace hz:=Qn hz hc19
 refine Qt (Qa ?_)
 refine Q0 (fun T' w' => ∃ M21 v24 l23,Mm.ext w.heap.size noX M10 M21∧St w noX M21 [.row v24 3 1,.box b6 cx1 34] w'∧repL M21 v24 l23∧T' 1 = .int .i64 x2∧T' 2=vx3∧T' 3 = .int .i64 x4∧T' 9=v24∧T' 13 = .agg (sl cx1 (0+0) 192).toArray∧T' 14 = .int .i64 y14∧qe8 y14 rec15 l23=some r) ?_ ?_
 have hF26:=Qg w.heap.size noX M10
 refine Qv <|Qh <|Qi <|Qc (Qe (.int .i64 y14) hT11_14) ?_
 obtain ⟨x27,hx28,hz⟩:=Qb hz
 obtain ⟨hx28a,hx28b,hx28⟩:=qoh ha7 hx28
 replace hx28:rep _ (sl (sl cx1 (0+0) 192) (Int.toNat y14*6) 6) x27:=hx28
 refine Qc (q0i zau hT11_13 hT11_14 hx28a hx28b) ?_
 refine Qs (Zg q68 hS ?_)
 intro b30 w29 hb30 hS
 have zb30:rep M10 (Zr.zc GEntry) (Zr.zd:GEntry):=Zr.zr
 refine Qc (Qj (.int .i64 y14) rfl) ?_
 obtain ⟨d33,hd32,hz⟩:=Qb hz
 refine Qs (Q8 0 6 hS rfl zb30 rfl rfl hx28 rfl rfl (Lf (rr zb30) hx28) hd32 ?_)
 intro cs32 w31 hb32 ha32 hs32 hS
 refine Qf (Qa ?_)
 refine Q0 (fun T' w' => ∃ M35 c37,Mm.ext w.heap.size noX M10 M35∧St w noX M35 [.box b30 cs32 30,.row v13 3 1,.box b6 cx1 34] w'∧T' 1 = .int .i64 x2∧T' 2=vx3∧T' 3 = .int .i64 x4∧T' 9=v13∧T' 10 = .int .i64 y14∧T' 13 = .agg (sl cx1 (0+0) 192).toArray∧T' 14 = .int .i64 y14∧T' 32 = .bool c37∧qdy l12 y14 rec15 c37=some r) ?_ ?_
 have hF45:=Qg w.heap.size noX M10
 refine Qi <|Qc (Qe (.int .i64 y14) rfl) <|Qc (Qe (.int .i64 x2) hT11_1) <|Qc (Yl rfl rfl) <|Qc (Qe (.bool (y14 != x2)) rfl) ?_
 rcases ic hz with ⟨hc46,hz⟩ | ⟨hc46,hz⟩<;>rw [hc46]
 refine Qk rfl rfl (Qp Y6 rfl) <|Qk rfl rfl (Qm (.int .i64 d33.state) Yb rfl (hS.bvB 0 rfl) (Yc (rr hb32))) <|Qk rfl rfl (Yl rfl rfl) <|Q2 2 rfl ?_
 rcases ic hz with ⟨hc47,hz⟩ | ⟨hc47,hz⟩<;>rw [hc47]
 refine Qk rfl rfl (Qp K7 rfl) ?_
 obtain ⟨v48,ev48,hv48⟩:=(Vs (rr hb32))
 refine Qk rfl rfl (Qm v48 Vp rfl (hS.bvB 0 rfl) ev48) <|Qk rfl rfl (Qe (vx3) hT11_2) <|Qk rfl rfl (Qe (.int .i64 x4) hT11_3) ?_
 obtain ⟨r51,hr50,hz⟩:=Qb hz
 replace hr50:=Option.some.inj hr50
 refine Kf rfl rfl (Z6 (vs:=[v48,vx3,.int .i64 x4]) (v := .bool r51) cb54 (Jj rfl rfl rfl) hS (hr50 ▸ (qy5 hS.agree hv48 hvx3)) ?_)
 intro w49 hS
 refine Qc (Zy (.bool r51) rfl rfl) ?_
 refine Qf (Qa ?_)
 exact ⟨M10,r51,hF45,hS,hT11_1,hT11_2,hT11_3,hT11_9,rfl,hT11_13,hT11_14,rfl,hz⟩
 refine Q2 6 rfl ?_
 refine Qf (Qa ?_)
 exact ⟨M10,false,hF45,hS,hT11_1,hT11_2,hT11_3,hT11_9,rfl,hT11_13,hT11_14,rfl,hz⟩
 refine Q2 11 rfl ?_
 refine Qf (Qa ?_)
 exact ⟨M10,false,hF45,hS,hT11_1,hT11_2,hT11_3,hT11_9,rfl,hT11_13,hT11_14,rfl,hz⟩
 rintro T36 w34 ⟨M35,c37,hx38,hS,hT36_1,hT36_2,hT36_3,hT36_9,hT36_10,hT36_13,hT36_14,hT36_32,hz⟩
 replace hv13:=Qz hx38.1 hv13
 replace hF26:=Qd hF26 hx38
 rw [qdy] at hz
 refine Qr hT36_32 (fun hc39 => ?_) (fun hc39 => ?_)
 replace hz:=Qn hz hc39
 refine Qi <|Qc (Qe (v13) hT36_9) <|Qc (Qe (.int .i64 y14) hT36_10) ?_
 refine Qs (Z0 (α := Int) (l:=([y14]:List Int)) [.int .i64 y14] qy0 (Ym rfl Vb) rfl rfl (by decide) (by decide) (by decide) hS (K3 (ri y14:rep M35 _ _) Jk) ?_)
 intro v41 M41 w40 hx41 hv41 hS
 replace hv13:=Qz hx41.1 hv13
 obtain ⟨l44,hr43,hz⟩:=Qb hz
 obtain ⟨hy43,hs43⟩:=Z1 hr43
 refine Qs (Y7 (α := Int) (j:=1) Ji hS rfl rfl rfl hv13 hv41 hy43 ?_)
 intro v43 M43 w42 hx43 hv43 hS
 rw [← hs43] at hv43
 clear hr43 hs43
 replace hF26:=Qd hF26 (hx41.trans hx43)
 refine Qc (Qj (v43) rfl) ?_
 refine Qf (Za ?_)
 refine (Qa ?_)
 exact ⟨M43,v43,l44,hF26,(Y2 hS hb30),hv43,hT36_1,hT36_2,hT36_3,rfl,hT36_13,hT36_14,hz⟩
 replace hz:=Qo hz hc39
 refine Qt (Za ?_)
 refine (Qa ?_)
 exact ⟨M35,v13,l12,hF26,(Y2 hS hb30),hv13,hT36_1,hT36_2,hT36_3,hT36_9,hT36_13,hT36_14,hz⟩
 rintro T22 w20 ⟨M21,v24,l23,hx25,hS,hv24,hT22_1,hT22_2,hT22_3,hT22_9,hT22_13,hT22_14,hz⟩
 replace hF17:=Qd hF17 hx25
 rw [qe8] at hz
 refine Qi <|Qc (Zz hT22_14 rfl) <|Qc (Qe (.int .i64 (IntKind.wrap .i64 (y14+1))) rfl) ?_
 refine Qf (Qa ?_)
 exact ⟨M21,v24,l23,(IntKind.wrap .i64 (y14+1)),hF17,hS,hv24,hT22_1,hT22_2,hT22_3,hT22_9,hT22_13,rfl,(by rw [← hrec15];exact hz)⟩
 replace hz:=Qo hz hc19
 refine Zq <|Qy <|Qy <|Zs ?_
 refine (Qa ?_)
 refine Qh <|Qi <|Qc (Qe (v13) hT11_9) <|Qc (Qj (v13) rfl) ?_
 refine Qf (Qa ?_)
 cases hz
 exact Q4 (Yg rfl rfl (Zk (Ql (Ql hS)) hE hv13))
def qcd (x1:GNode):Nat→GGraph→Int→Option GGraph
 | 0,_,_=>none
 | n+1,d13,y14 =>
 (bif decide (y14<32) then
 (qa7 x1.entries y14).bind fun x20 =>
 (some x20).bind fun d26 =>
 (inR y14 32).bind fun _ =>
 (qa7 d13.known y14).bind fun x35 =>
 (qe2 d13.known y14 (decide (d26.state≥2))).bind fun a37 =>
 (some ({ d13 with known:=a37 }:GGraph)).bind fun d39 =>
 (inR y14 32).bind fun _ =>
 (qa7 d39.deps y14).bind fun x45 =>
 (qe2 d39.deps y14 d26.deps).bind fun a47 =>
 (some ({ d39 with deps:=a47 }:GGraph)).bind fun d49 =>
 (qcd x1 n) d49 (IntKind.wrap .i64 (y14+1))
 else
 (some d13).bind fun d54 =>
 some d54)
def qjq (fu:Nat) (x1:GNode):Option GGraph :=
 qcd x1 fu (Zr.zd:GGraph) 0
theorem qty {M:Mm} {w:World} {cx1:List Value} {x1:GNode} {fu:Nat} {r:GGraph} (hA:Agree M w) (hcx1:rep M cx1 x1) (hz:qjq fu x1=some r) :
    Calls Try.prog 90 #[.agg cx1.toArray] w (Gives M w (fun M' u => ∃ cs,u = .agg cs.toArray∧rep M' cs r)):=by
 refine Zh Try.func90 rfl 25 rfl rfl (by kernel_rfl) fun T hT => ?_
 have hT_0:T 0 = .agg cx1.toArray:=hT 0
 clear hT
 have hE:=Qg w.heap.size noX M
 have hS:St w noX M [] w:=Zx hA
 rw [qjq] at hz
 refine Qh <|Qi ?_
 refine Qs (Yo (v := .agg cx1.toArray) (cs:=cx1) hT_0 rfl hS ?_)
 intro b3 w2 hb3 hS
 refine Qs (Zg zax hS ?_)
 intro b5 w4 hb5 hS
 have zb5:rep M (Zr.zc GGraph) (Zr.zd:GGraph):=Zr.zr
 refine Qf (Qa ?_)
 refine Qh <|Qi ?_
 refine Qs (Zg zax hS ?_)
 intro b7 w6 hb7 hS
 have zb7:rep M (Zr.zc GGraph) (Zr.zd:GGraph):=Zr.zr
 refine Qf (Qa ?_)
 refine Qh <|Qh <|Qi <|Qc (Qp V5 rfl) ?_
 have ha8:=(Q5 (rr hcx1))
 refine Qc (Zf zat rfl (hS.bvB 2 rfl) (Rep.len ha8)) <|Qc (Qe (.int .i64 0) rfl) ?_
 refine Qf (Qa ?_)
 refine Qv ?_
 refine Zw (fun k16 T' w' => ∃ M10 cs12 d13 y14,Mm.ext w.heap.size noX M M10∧St w noX M10 [.box b7 cs12 61,.box b5 (Zr.zc GGraph) 61,.box b3 cx1 34] w'∧rep M10 cs12 d13∧T' 2 = .pointer (some ⟨b5,0,none⟩)∧T' 3 = .pointer (some ⟨b7,0,none⟩)∧T' 7 = .agg (sl cx1 (0+0) 192).toArray∧T' 8 = .int .i64 y14∧qcd x1 k16 d13 y14=some r) fu ?_ ?_ ?_
 exact ⟨M,(Zr.zc GGraph),(Zr.zd:GGraph),(0:Int),(Qg _ _ _),hS,zb7,rfl,rfl,rfl,rfl,hz⟩
 rintro T' w' ⟨_,_,_,_,_,_,_,_,_,_,_,hz⟩
 rw [qcd] at hz
 cases hz
 intro k16
 rintro T11 w9 ⟨M10,cs12,d13,y14,hx18,hS,hb12,hT11_2,hT11_3,hT11_7,hT11_8,hz⟩
 replace zb5:=Rep.mono hx18.1 zb5
 replace ha8:=Rep.mono hx18.1 ha8
 replace hE:=Qd hE hx18
 have hF17:=hx18
 rw [qcd] at hz
 obtain ⟨rec15,hrec15⟩ : ∃ f,f=qcd x1 k16:=⟨_,rfl⟩
 rw [← hrec15] at hz
 refine Qh <|Qi <|Qc (Zv hT11_8 rfl) ?_
 refine Qf (Qa ?_)
 refine Qh ?_
 refine Qr rfl (fun hc19 => ?_) (fun hc19 => ?_)
 replace hz:=Qn hz hc19
 refine Qt (Qa ?_)
 refine Qh <|Qv <|Qh <|Qi <|Qc (Qe (.int .i64 y14) hT11_8) ?_
 obtain ⟨x20,hx21,hz⟩:=Qb hz
 obtain ⟨hx21a,hx21b,hx21⟩:=qoh ha8 hx21
 replace hx21:rep _ (sl (sl cx1 (0+0) 192) (Int.toNat y14*6) 6) x20:=hx21
 refine Qc (q0i zau hT11_7 hT11_8 hx21a hx21b) ?_
 refine Qs (Zg q68 hS ?_)
 intro b23 w22 hb23 hS
 have zb23:rep M10 (Zr.zc GEntry) (Zr.zd:GEntry):=Zr.zr
 refine Qc (Qj (.int .i64 y14) rfl) ?_
 obtain ⟨d26,hd25,hz⟩:=Qb hz
 refine Qs (Q8 0 6 hS rfl zb23 rfl rfl hx21 rfl rfl (Lf (rr zb23) hx21) hd25 ?_)
 intro cs25 w24 hb25 ha25 hs25 hS
 refine Qf (Qa ?_)
 refine Yu [.box b23 cs25 30] [] Ya hS fun w27 hS hG28 hR29=>wy 0 rfl (Qe (.int .i64 y14) rfl) (fun _=>hR29) <|wy 1 rfl (Qe (.int .i64 y14) rfl) (fun _=>hR29) <|wy 2 rfl (Qp Y6 rfl) (fun _=>hR29) <|Y8 3 rfl (Qm (.int .i64 d26.state) Yb rfl (Yp 0 rfl) (Yc (rr hb25))) hR29 <|wy 4 rfl (Vd rfl rfl) (fun _=>hR29) <|wy 5 rfl (Qp Jo rfl) (fun _=>hR29) ?_
 obtain ⟨v30,ev30,hv30⟩:=(Vx (rr hb25))
 refine Y8 6 rfl (Qm v30 Z4 rfl (Yp 0 rfl) ev30) hR29 <|wy 7 rfl (Qp q05 hT11_3) (fun _=>hR29) ?_
 obtain ⟨u31,hx32,hz⟩:=Qb hz
 obtain ⟨hx32a,hx32b⟩:=Qw hx32
 refine wy 8 rfl (Ze Jn rfl rfl hx32a hx32b) (fun _=>hR29) <|wy 10 rfl (Qp qxr hT11_3) (fun _=>hR29) ?_
 obtain ⟨x35,hx36,hz⟩:=Qb hz
 obtain ⟨a37,hx38,hz⟩:=Qb hz
 obtain ⟨d39,hd34,hz⟩:=Qb hz
 refine w1 9 rfl (Q8 1 1 hS rfl hb12 rfl rfl (rb (decide (d26.state≥2)):rep M10 _ _) rfl rfl (GGraph.u0 (rr hb12) (vu (k:=1) rfl rfl (GGraph.p0 (rr hb12)) (Lf (vp (k:=1) rfl rfl (GGraph.p0 (rr hb12)) hx36) (rb (decide (d26.state≥2)):rep M10 _ _)) hx38)) hd34 ?_)
 intro cs34 w33 hb34 ha34 hs34 hS
 refine Yq hS hG28 fun hR40 => ?_
 obtain ⟨u41,hx42,hz⟩:=Qb hz
 obtain ⟨hx42a,hx42b⟩:=Qw hx42
 refine wy 11 rfl (Ze q9i rfl rfl hx42a hx42b) (fun _=>hR40) ?_
 obtain ⟨x45,hx46,hz⟩:=Qb hz
 obtain ⟨a47,hx48,hz⟩:=Qb hz
 obtain ⟨d49,hd44,hz⟩:=Qb hz
 refine w1 12 rfl (Q8 1 1 hS rfl hb34 rfl rfl (Q1 hv30) (Zc hv30) rfl (GGraph.u1 (rr hb34) (vu (k:=1) rfl rfl (Jb (rr hb34)) (Lf (vp (k:=1) rfl rfl (Jb (rr hb34)) hx46) (Q1 hv30)) hx48)) hd44 ?_)
 intro cs44 w43 hb44 ha44 hs44 hS
 refine Yq hS hG28 fun hR50 => ?_
 refine wd (Za ?_)
 refine (Qa ?_)
 refine Qi <|Qc (Zz hT11_8 rfl) <|Qc (Qe (.int .i64 (IntKind.wrap .i64 (y14+1))) rfl) ?_
 refine Qf (Qa ?_)
 exact ⟨M10,cs44,d49,(IntKind.wrap .i64 (y14+1)),hF17,(Y2 hS hb23),hb44,hT11_2,hT11_3,hT11_7,rfl,(by rw [← hrec15];exact hz)⟩
 replace hz:=Qo hz hc19
 refine Zq <|Qy <|Qy <|Zs ?_
 refine (Qa ?_)
 refine Qh <|Qi ?_
 have ha51:=(rr hb12)
 refine Qc (Zf q69 hT11_3 (hS.bvB 0 rfl) (Rep.len ha51)) ?_
 obtain ⟨d54,hd53,hz⟩:=Qb hz
 refine Qs (Q8 1 64 hS rfl zb5 hT11_2 rfl ha51 rfl rfl (Lf (rr zb5) ha51) hd53 ?_)
 intro cs53 w52 hb53 ha53 hs53 hS
 refine Qf (Qa ?_)
 cases hz
 exact Q4 (Jq (j:=1) rfl hT11_2 (by rw [Rep.len hb53];exact q69) hS rfl (Zk (Ql (Ql (Ql hS))) hE ⟨_,rfl,hb53⟩))
def qg3 (y58:Int) (rec59:GNode→Int→Option GNode) (d68:GNode):Option GNode :=
 rec59 d68 (IntKind.wrap .i64 (y58+1))
def qjr (y58:Int) (rec59:GNode→Int→Option GNode) (d118:GNode):Option GNode :=
 qg3 y58 rec59 d118
def qcl (x3:Int) (x4:Int) (x43:GEntry):Nat→GNode→Int→Option GNode
 | 0,_,_=>none
 | n+1,d51,y58 =>
 (bif decide (y58<(x43.ops.length:Int)) then
 (idx x43.ops y58).bind fun x78 =>
 (some x78).bind fun d84 =>
 (some (qas d84.key)).bind fun r87 =>
 (bif r87==x4 then
 (inR d84.key 8).bind fun _ =>
 (qa7 d51.values d84.key).bind fun x94 =>
 (some (doZ x94 d84)).bind fun r99 =>
 (inR d84.key 8).bind fun _ =>
 (qa7 d51.values d84.key).bind fun x105 =>
 (qe2 d51.values d84.key r99).bind fun a107 =>
 (some ({ d51 with values:=a107 }:GNode)).bind fun d109 =>
 (qa7 d109.entries x3).bind fun x129 =>
 (qa7 d109.entries x3).bind fun x132 =>
 (inR d84.key 8).bind fun _ =>
 (qa7 d109.values d84.key).bind fun x137 =>
 (app x129.at_ ([y58]:List Int)).bind fun l143 =>
 (app x132.values ([x137]:List Int)).bind fun l148 =>
 (qa7 d109.entries x3).bind fun x151 =>
 (qe2 d109.entries x3 ({ x151 with at_:=l143 })).bind fun a153 =>
 (some ({ d109 with entries:=a153 }:GNode)).bind fun d155 =>
 (qa7 d155.entries x3).bind fun x162 =>
 (qe2 d155.entries x3 ({ x162 with values:=l148 })).bind fun a164 =>
 (some ({ d155 with entries:=a164 }:GNode)).bind fun d166 =>
 qjr y58 (qcl x3 x4 x43 n) d166
 else
 qg3 y58 (qcl x3 x4 x43 n) d51)
 else
 (app d51.order ([x3]:List Int)).bind fun l187 =>
 (some ({ d51 with order:=l187 }:GNode)).bind fun d190 =>
 (some d190).bind fun d198 =>
 some d198)
def qli (fu:Nat) (x1:GNode) (x3:Int) (x4:Int):Option GNode :=
 (inR x3 32).bind fun _ =>
 (qa7 x1.entries x3).bind fun x13 =>
 (qe2 x1.entries x3 ({ x13 with state:=3 })).bind fun a15 =>
 (some ({ x1 with entries:=a15 }:GNode)).bind fun d17 =>
 (qa7 d17.entries x3).bind fun x23 =>
 (qe2 d17.entries x3 ({ x23 with at_:=[] })).bind fun a25 =>
 (some ({ d17 with entries:=a25 }:GNode)).bind fun d27 =>
 (qa7 d27.entries x3).bind fun x34 =>
 (qe2 d27.entries x3 ({ x34 with values:=[] })).bind fun a36 =>
 (some ({ d27 with entries:=a36 }:GNode)).bind fun d38 =>
 (qa7 d38.entries x3).bind fun x43 =>
 qcl x3 x4 x43 fu d38 0
theorem qy6 {M:Mm} {w:World} {cx1:List Value} {ux1_1:Value} {x1:GNode} {x3:Int} {x4:Int} {fu:Nat} {r:GNode} (hS:St w (qai [.row ux1_1 3 1]) M [.row ux1_1 3 1] w) (hcx1:rep M cx1 x1) (hpx1_1:sl cx1 192 1=[ux1_1]) (hz:qli fu x1 x3 x4=some r) :
    Calls Try.prog 91 #[.agg cx1.toArray,.int .i64 x3,.int .i64 x4] w (qcv M w [.row ux1_1 3 1] (fun M' u L' => ∃ c0 u0,u = .agg c0.toArray∧L'=[.row u0 3 1]∧rep M' c0 r∧sl c0 192 1=[u0])):=by
 refine Zh Try.func91 rfl 80 rfl rfl (by kernel_rfl) fun T hT => ?_
 have hT_0:T 0 = .agg cx1.toArray:=hT 0
 have hT_1:T 1 = .int .i64 x3:=hT 1
 have hT_2:T 2 = .int .i64 x4:=hT 2
 clear hT
 have hE:=Qg w.heap.size (qai [.row ux1_1 3 1]) M
 rw [qli] at hz
 refine Qh <|Qi ?_
 refine Qs (Yo (v := .agg cx1.toArray) (cs:=cx1) hT_0 rfl hS ?_)
 intro b6 w5 hb6 hS
 refine Qs (Zg qxo hS ?_)
 intro b8 w7 hb8 hS
 have zb8:rep M (Zr.zc GNode) (Zr.zd:GNode):=Zr.zr
 refine Qf (Qa ?_)
 refine Qh <|Qi <|Qc (Qe (.int .i64 x3) hT_1) <|Qc (Qp V5 rfl) ?_
 obtain ⟨u9,hx10,hz⟩:=Qb hz
 obtain ⟨hx10a,hx10b⟩:=Qw hx10
 refine Qc (Ze q3m rfl rfl hx10a hx10b) <|Qc (Qj (.pointer (some ⟨b6,0+0+Int.toNat x3*6,none⟩)) rfl) ?_
 refine Qf (Qa ?_)
 refine Qh <|Qi <|Qc (Qe (.pointer (some ⟨b6,0+0+Int.toNat x3*6,none⟩)) rfl) <|Qc (Q6 rfl) <|Qc (Qp Y6 rfl) ?_
 obtain ⟨x13,hx14,hz⟩:=Qb hz
 obtain ⟨a15,hx16,hz⟩:=Qb hz
 obtain ⟨d17,hd12,hz⟩:=Qb hz
 have hq19:=(Zo hx14)
 refine Qs (Q8 1 1 hS rfl hcx1 rfl rfl (ri 3:rep M _ _) rfl rfl (Yx (rr hcx1) (vu (k:=6) rfl rfl (Q5 (rr hcx1)) (GEntry.u0 (vp (k:=6) rfl rfl (Q5 (rr hcx1)) hx14) (Lf (Yc (vp (k:=6) rfl rfl (Q5 (rr hcx1)) hx14)) (ri 3:rep M _ _))) hx16)) hd12 ?_)
 intro cs12 w11 hb12 ha12 hs12 hS
 have hp18:=(ha12 (by omega)).trans hpx1_1
 refine Qf (Qa ?_)
 refine Qh <|Qi <|Q2 2 rfl <|Qc (Q6 rfl) <|Qc (Qp Vo rfl) ?_
 replace hS:=hS.nilRow 3 1
 obtain ⟨x23,hx24,hz⟩:=Qb hz
 obtain ⟨a25,hx26,hz⟩:=Qb hz
 obtain ⟨d27,hd22,hz⟩:=Qb hz
 have hq29:=(Zo hx24)
 refine Qs (Q8 2 1 hS rfl hb12 rfl rfl (show rep M [Value.slice none 0 0] ([]:List Int) from Q1 (Z5 _)) rfl rfl (Yx (rr hb12) (vu (k:=6) rfl rfl (Q5 (rr hb12)) (Je (vp (k:=6) rfl rfl (Q5 (rr hb12)) hx24) (Lf (Yh (vp (k:=6) rfl rfl (Q5 (rr hb12)) hx24)) (show rep M [Value.slice none 0 0] ([]:List Int) from Q1 (Z5 _)))) hx26)) hd22 ?_)
 intro cs22 w20 hb22 ha22 hs22 hS
 have hp28:=(ha22 (by omega)).trans hp18
 have hp30:=hs22
 refine Qc (Q6 rfl) <|Qc (Qp V6 rfl) ?_
 replace hS:=hS.nilRow 3 1
 obtain ⟨x34,hx35,hz⟩:=Qb hz
 obtain ⟨a36,hx37,hz⟩:=Qb hz
 obtain ⟨d38,hd33,hz⟩:=Qb hz
 have hq41:=(Zo hx35)
 refine Qs (Q8 3 1 hS rfl hb22 rfl rfl (show rep M [Value.slice none 0 0] ([]:List Int) from Q1 (Z5 _)) rfl rfl (Yx (rr hb22) (vu (k:=6) rfl rfl (Q5 (rr hb22)) (Jf (vp (k:=6) rfl rfl (Q5 (rr hb22)) hx35) (Lf (Yt (vp (k:=6) rfl rfl (Q5 (rr hb22)) hx35)) (show rep M [Value.slice none 0 0] ([]:List Int) from Q1 (Z5 _)))) hx37)) hd33 ?_)
 intro cs33 w31 hb33 ha33 hs33 hS
 have hp39:=(ha33 (by omega)).trans hp28
 have hp40:=(ha33 (by omega)).trans hp30
 have hp42:=hs33
 refine Qf (Qa ?_)
 refine Qh <|Qh <|Qi <|Qc (Qe (.pointer (some ⟨b6,0+0+Int.toNat x3*6,none⟩)) rfl) <|Qc (Q6 rfl) <|Qc (Qp K7 rfl) ?_
 obtain ⟨x43,hx44,hz⟩:=Qb hz
 obtain ⟨v45,ev45,hv45⟩:=(Vs (vp (k:=6) rfl rfl (Q5 (rr hb33)) hx44))
 refine Qc (Qm v45 Vp rfl (hS.bvB 3 rfl) ev45) ?_
 obtain ⟨a46,c46,hv46,_⟩:=Q3 hv45
 refine Qc (Zj Z7 (Vv hv46 rfl)) <|Qc (Qe (.int .i64 0) rfl) ?_
 refine Qf (Qa ?_)
 refine Qv ?_
 refine Zw (fun k60 T' w' => ∃ M48 cs50 d51 v52 v54 v56 y58,Mm.ext w.heap.size (qai [.row ux1_1 3 1]) M M48∧St w (qai [.row ux1_1 3 1]) M48 [.row v56 3 1,.row v54 3 1,.box b8 (Zr.zc GNode) 34,.box b6 cs50 34,.row v52 3 1] w'∧rep M48 cs50 d51∧sl cs50 (192) 1=[v52]∧sl cs50 (0+0+Int.toNat x3*6+4) 1=[v54]∧sl cs50 (0+0+Int.toNat x3*6+5) 1=[v56]∧T' 1 = .int .i64 x3∧T' 2 = .int .i64 x4∧T' 3 = .pointer (some ⟨b6,0,none⟩)∧T' 6 = .pointer (some ⟨b8,0,none⟩)∧T' 7 = .pointer (some ⟨b6,0+0+Int.toNat x3*6,none⟩)∧T' 25=v45∧T' 26 = .int .i64 (x43.ops.length:Int)∧T' 27 = .int .i64 y58∧qcl x3 x4 x43 k60 d51 y58=some r) fu ?_ ?_ ?_
 exact ⟨M,cs33,d38,ux1_1,(.slice none 0 0),(.slice none 0 0),(0:Int),(Qg _ _ _),hS,hb33,hp39,hp40,hp42,hT_1,hT_2,rfl,rfl,rfl,rfl,rfl,rfl,hz⟩
 rintro T' w' ⟨_,_,_,_,_,_,_,_,_,_,_,_,_,_,_,_,_,_,_,_,_,hz⟩
 rw [qcl] at hz
 cases hz
 intro k60
 rintro T49 w47 ⟨M48,cs50,d51,v52,v54,v56,y58,hx62,hS,hb50,hp53,hp55,hp57,hT49_1,hT49_2,hT49_3,hT49_6,hT49_7,hT49_25,hT49_26,hT49_27,hz⟩
 replace zb8:=Rep.mono hx62.1 zb8
 replace hv45:=Qz hx62.1 hv45
 replace hE:=Qd hE hx62
 have hF61:=hx62
 rw [qcl] at hz
 obtain ⟨rec59,hrec59⟩ : ∃ f,f=qcl x3 x4 x43 k60:=⟨_,rfl⟩
 rw [← hrec59] at hz
 refine Qh <|Qi <|Qc (Zv hT49_27 hT49_26) ?_
 refine Qf (Qa ?_)
 refine Qh ?_
 refine Qr rfl (fun hc63 => ?_) (fun hc63 => ?_)
 replace hz:=Qn hz hc63
 refine Qt (Qa ?_)
 refine Q0 (fun T' w' => ∃ M65 cs67 d68 v69 v71 v73,Mm.ext w.heap.size (qai [.row ux1_1 3 1]) M48 M65∧St w (qai [.row ux1_1 3 1]) M65 [.row v73 3 1,.row v71 3 1,.box b8 (Zr.zc GNode) 34,.box b6 cs67 34,.row v69 3 1] w'∧rep M65 cs67 d68∧sl cs67 (192) 1=[v69]∧sl cs67 (0+0+Int.toNat x3*6+4) 1=[v71]∧sl cs67 (0+0+Int.toNat x3*6+5) 1=[v73]∧T' 1 = .int .i64 x3∧T' 2 = .int .i64 x4∧T' 3 = .pointer (some ⟨b6,0,none⟩)∧T' 6 = .pointer (some ⟨b8,0,none⟩)∧T' 7 = .pointer (some ⟨b6,0+0+Int.toNat x3*6,none⟩)∧T' 25=v45∧T' 26 = .int .i64 (x43.ops.length:Int)∧T' 27 = .int .i64 y58∧qg3 y58 rec59 d68=some r) ?_ ?_
 have hF76:=Qg w.heap.size (qai [.row ux1_1 3 1]) M48
 refine Qv <|Qh <|Qi <|Qc (Qe (.int .i64 y58) hT49_27) ?_
 obtain ⟨x78,hx77,hz⟩:=Qb hz
 obtain ⟨b77,o77,c77,p77,hv77,hi77,hj77,hM77,hr77⟩:=Yf hv45 hx77
 replace hr77:rep _ (sl p77 (o77+Int.toNat y58*3) 3) x78:=hr77
 refine Qc (Ys q9d hT49_25 hv77 hT49_27 hi77 hj77) ?_
 have ha79:=hr77
 refine Qc (Zf q9j rfl (hS.bvM hM77) (Rep.len ha79)) ?_
 refine Qs (Zg q9k hS ?_)
 intro b81 w80 hb81 hS
 have zb81:rep M48 (Zr.zc GOp) (Zr.zd:GOp):=Zr.zr
 refine Qc (Qj (.int .i64 y58) rfl) ?_
 obtain ⟨d84,hd83,hz⟩:=Qb hz
 refine Qs (Q8 0 3 hS rfl zb81 rfl rfl ha79 rfl rfl (Lf (rr zb81) ha79) hd83 ?_)
 intro cs83 w82 hb83 ha83 hs83 hS
 refine Qf (Qa ?_)
 refine Qh <|Qi <|Qc (Qp qoq rfl) <|Qc (Qm (.int .i64 d84.key) Yb rfl (hS.bvB 0 rfl) (GOp.p1 (rr hb83))) ?_
 obtain ⟨r87,hr86,hz⟩:=Qb hz
 replace hr86:=Option.some.inj hr86
 refine Qs (Z6 (vs:=[.int .i64 d84.key]) (v := .int .i64 r87) zba (Zu rfl) hS (hr86 ▸ (qwc)) ?_)
 intro w85 hS
 refine Qc (Qe (.int .i64 x4) hT49_2) <|Qc (Yd rfl rfl) ?_
 refine Qf (Qa ?_)
 refine Qr rfl (fun hc88 => ?_) (fun hc88 => ?_)
 replace hz:=Qn hz hc88
 refine Qh <|Yu [.box b81 cs83 65,.box b6 cs50 34] [11] Ya hS fun w89 hS hG90 hR91=>wy 0 rfl (Qp qoq rfl) (fun _=>hR91) <|Y8 1 rfl (Qm (.int .i64 d84.key) Yb rfl (Yp 0 rfl) (GOp.p1 (rr hb83))) hR91 <|wy 2 rfl (Qp qoq rfl) (fun _=>hR91) <|Y8 3 rfl (Qm (.int .i64 d84.key) Yb rfl (Yp 0 rfl) (GOp.p1 (rr hb83))) hR91 <|wy 4 rfl (Qp qtg hT49_3) (fun _=>hR91) ?_
 obtain ⟨u92,hx93,hz⟩:=Qb hz
 obtain ⟨hx93a,hx93b⟩:=Qw hx93
 refine wy 5 rfl (Ze zav rfl rfl hx93a hx93b) (fun _=>hR91) ?_
 obtain ⟨x94,hx95,hz⟩:=Qb hz
 refine Y8 6 rfl (Qm (.int .i64 x94) Yb rfl (Yp 1 rfl) (vp (k:=1) rfl rfl (K8 (rr hb50)) hx95)) hR91 ?_
 have ha96:=(rr hb83)
 refine Y8 7 rfl (Zf q9j rfl (Yp 0 rfl) (Rep.len ha96)) hR91 <|wy 9 rfl (Qp qtg hT49_3) (fun _=>hR91) ?_
 obtain ⟨r99,hr98,hz⟩:=Qb hz
 replace hr98:=Option.some.inj hr98
 refine w1 8 rfl (Z6 (vs:=[.int .i64 x94,.agg (sl cs83 (0) 3).toArray]) (v := .int .i64 r99) cb27 (Z8 rfl rfl) hS (hr98 ▸ (c_do hS.agree ha96)) ?_)
 intro w97 hS
 refine Yq hS hG90 fun hR100 => ?_
 obtain ⟨u101,hx102,hz⟩:=Qb hz
 obtain ⟨hx102a,hx102b⟩:=Qw hx102
 refine wy 10 rfl (Ze zav rfl rfl hx102a hx102b) (fun _=>hR100) ?_
 obtain ⟨x105,hx106,hz⟩:=Qb hz
 obtain ⟨a107,hx108,hz⟩:=Qb hz
 obtain ⟨d109,hd104,hz⟩:=Qb hz
 have hq113:=(Zo hx106)
 refine w1 11 rfl (Q8 4 1 hS rfl hb50 rfl rfl (ri r99:rep M48 _ _) rfl rfl (GNode.u2 (rr hb50) (vu (k:=1) rfl rfl (K8 (rr hb50)) (Lf (vp (k:=1) rfl rfl (K8 (rr hb50)) hx106) (ri r99:rep M48 _ _)) hx108)) hd104 ?_)
 intro cs104 w103 hb104 ha104 hs104 hS
 have hp110:=(ha104 (by omega)).trans hp53
 have hp111:=(ha104 (by omega)).trans hp55
 have hp112:=(ha104 (by omega)).trans hp57
 refine ⟨nB,?_⟩
 refine wd (Qa ?_)
 refine W_J (fun T' w' => ∃ M115 cs117 d118 v120 v122,Mm.ext w.heap.size (qai [.row ux1_1 3 1]) M48 M115∧St w (qai [.row ux1_1 3 1]) M115 [.box b81 cs83 65,.row v122 3 1,.row v120 3 1,.box b8 (Zr.zc GNode) 34,.box b6 cs117 34,.row v52 3 1] w'∧rep M115 cs117 d118∧sl cs117 (192) 1=[v52]∧sl cs117 (0+0+Int.toNat x3*6+4) 1=[v120]∧sl cs117 (0+0+Int.toNat x3*6+5) 1=[v122]∧T' 1 = .int .i64 x3∧T' 2 = .int .i64 x4∧T' 3 = .pointer (some ⟨b6,0,none⟩)∧T' 6 = .pointer (some ⟨b8,0,none⟩)∧T' 7 = .pointer (some ⟨b6,0+0+Int.toNat x3*6,none⟩)∧T' 25=v45∧T' 26 = .int .i64 (x43.ops.length:Int)∧T' 27 = .int .i64 y58∧qjr y58 rec59 d118=some r) ?_ ?_
 have hF125:=Qg w.heap.size (qai [.row ux1_1 3 1]) M48
 refine Yu [.box b81 cs83 65,.box b6 cs104 34] [22,25] Ya hS fun w126 hS hG127 hR128=>wy 0 rfl (Qe (.pointer (some ⟨b6,0+0+Int.toNat x3*6,none⟩)) hT49_7) (fun _=>hR128) <|wy 1 rfl (Qe (.pointer (some ⟨b6,0+0+Int.toNat x3*6,none⟩)) hT49_7) (fun _=>hR128) <|wy 2 rfl (Qe (.pointer (some ⟨b6,0+0+Int.toNat x3*6,none⟩)) hT49_7) (fun _=>hR128) <|wy 3 rfl (Q6 rfl) (fun _=>hR128) <|wy 4 rfl (Qp Vo rfl) (fun _=>hR128) ?_
 obtain ⟨x129,hx130,hz⟩:=Qb hz
 obtain ⟨v131,ev131,hv131⟩:=(Yh (vp (k:=6) rfl rfl (Q5 (rr hb104)) hx130))
 rw [Kd ev131 hp111] at hv131
 refine Y8 5 rfl (Qm v54 Z4 rfl (Yp 1 rfl) hp111) hR128 <|wy 6 rfl (Qe (.int .i64 y58) rfl) (fun _=>hR128) <|wy 9 rfl (Qe (.pointer (some ⟨b6,0+0+Int.toNat x3*6,none⟩)) hT49_7) (fun _=>hR128) <|wy 10 rfl (Q6 rfl) (fun _=>hR128) <|wy 11 rfl (Qp V6 rfl) (fun _=>hR128) ?_
 obtain ⟨x132,hx133,hz⟩:=Qb hz
 obtain ⟨v134,ev134,hv134⟩:=(Yt (vp (k:=6) rfl rfl (Q5 (rr hb104)) hx133))
 rw [Kd ev134 hp112] at hv134
 refine Y8 12 rfl (Qm v56 Z4 rfl (Yp 1 rfl) hp112) hR128 <|wy 13 rfl (Qp qoq rfl) (fun _=>hR128) <|wlC (inL [16,17,18,22,25]) 14 rfl (Qm (.int .i64 d84.key) Yb rfl (Yp 0 rfl) (GOp.p1 (rr hb83))) hR128 <|wy 15 rfl (Qp qtg hT49_3) (fun _=>hR128) ?_
 obtain ⟨u135,hx136,hz⟩:=Qb hz
 obtain ⟨hx136a,hx136b⟩:=Qw hx136
 refine wy 16 rfl (Ze zav rfl rfl hx136a hx136b) (fun _=>hR128) ?_
 obtain ⟨x137,hx138,hz⟩:=Qb hz
 refine Y8 17 rfl (Qm (.int .i64 x137) Yb rfl (Yp 1 rfl) (vp (k:=1) rfl rfl (K8 (rr hb104)) hx138)) hR128 ?_
 obtain ⟨l143,hr142,hz⟩:=Qb hz
 obtain ⟨l148,hr147,hz⟩:=Qb hz
 obtain ⟨x151,hx152,hz⟩:=Qb hz
 obtain ⟨a153,hx154,hz⟩:=Qb hz
 obtain ⟨d155,hd150,hz⟩:=Qb hz
 obtain ⟨x162,hx163,hz⟩:=Qb hz
 obtain ⟨a164,hx165,hz⟩:=Qb hz
 obtain ⟨d166,hd161,hz⟩:=Qb hz
 refine qtl (i:=7) (j:=18) (by kernel_rfl) rfl rfl (Z0 (α := Int) (l:=([y58]:List Int)) [.int .i64 y58] qy0 (Ym rfl Vb) rfl rfl (by decide) (by decide) (by decide) hS (K3 (ri y58:rep M48 _ _) Jk) ?_) (Z0 (α := Int) (l:=([x137]:List Int)) [.int .i64 x137] qy0 (Ym rfl Vb) rfl rfl (by decide) (by decide) (by decide) hS (K3 (ri x137:rep M48 _ _) Jk) ?_)
 intro v140 M140 w139 hx140 hv140 hS
 replace hb104:=Rep.mono hx140.1 hb104
 replace hv131:=Qz hx140.1 hv131
 replace hv134:=Qz hx140.1 hv134
 replace hF125:=Qd hF125 hx140
 replace hG127:=Qd hG127 hx140
 refine Yq hS hG127 fun hR171 => ?_
 obtain ⟨hy142,hs142⟩:=Z1 hr142
 refine qtl (i:=8) (j:=18) (by kernel_rfl) rfl rfl (Y7 (α := Int) (j:=2) Ji hS rfl rfl rfl hv131 hv140 hy142 ?_) (Z0 (α := Int) (l:=([x137]:List Int)) [.int .i64 x137] qy0 (Ym rfl Vb) rfl rfl (by decide) (by decide) (by decide) hS (K3 (ri x137:rep M140 _ _) Jk) ?_)
 intro v142 M142 w141 hx142 hv142 hS
 rw [← hs142] at hv142
 clear hr142 hs142
 replace hG127:=Qd hG127 hx142
 refine Yq hS hG127 fun hR172 => ?_
 refine w1 18 rfl (Z0 (α := Int) (l:=([x137]:List Int)) [.int .i64 x137] qy0 (Ym rfl Vb) rfl rfl (by decide) (by decide) (by decide) hS (K3 (ri x137:rep M142 _ _) Jk) ?_)
 intro v145 M145 w144 hx145 hv145 hS
 replace hv134:=Qz (hx142.1.trans hx145.1) hv134
 replace hG127:=Qd hG127 hx145
 refine Yq hS hG127 fun hR173 => ?_
 obtain ⟨hy147,hs147⟩:=Z1 hr147
 refine w1 19 rfl (Y7 (α := Int) (j:=1) Ji hS rfl rfl rfl hv134 hv145 hy147 ?_)
 intro v147 M147 w146 hx147 hv147 hS
 rw [← hs147] at hv147
 clear hr147 hs147
 replace hb104:=Rep.mono (hx142.1.trans (hx145.1.trans hx147.1)) hb104
 replace hv142:=Qz (hx145.1.trans hx147.1) hv142
 replace hF125:=Qd hF125 (hx142.trans (hx145.trans hx147))
 replace hG127:=Qd hG127 hx147
 refine Yq hS hG127 fun hR174=>wy 20 rfl (Q6 rfl) (fun _=>hR174) <|wy 21 rfl (Qp Vo rfl) (fun _=>hR174) ?_
 have hq158:=(Zo hx152)
 refine w1 22 rfl (Q8 4 1 hS rfl hb104 rfl rfl (Q1 hv142) (Zc hv142) rfl (Yx (rr hb104) (vu (k:=6) rfl rfl (Q5 (rr hb104)) (Je (vp (k:=6) rfl rfl (Q5 (rr hb104)) hx152) (Lf (Yh (vp (k:=6) rfl rfl (Q5 (rr hb104)) hx152)) (Q1 hv142))) hx154)) hd150 ?_)
 intro cs150 w149 hb150 ha150 hs150 hS
 have hp156:=(ha150 (by omega)).trans hp110
 have hp157:=(ha150 (by omega)).trans hp112
 have hp159:=hs150
 refine ⟨nB,?_⟩
 refine wy 23 rfl (Q6 rfl) nB <|wy 24 rfl (Qp V6 rfl) nB ?_
 have hq169:=(Zo hx163)
 refine w1 25 rfl (Q8 4 1 hS rfl hb150 rfl rfl (Q1 hv147) (Zc hv147) rfl (Yx (rr hb150) (vu (k:=6) rfl rfl (Q5 (rr hb150)) (Jf (vp (k:=6) rfl rfl (Q5 (rr hb150)) hx163) (Lf (Yt (vp (k:=6) rfl rfl (Q5 (rr hb150)) hx163)) (Q1 hv147))) hx165)) hd161 ?_)
 intro cs161 w160 hb161 ha161 hs161 hS
 have hp167:=(ha161 (by omega)).trans hp156
 have hp168:=(ha161 (by omega)).trans hp159
 have hp170:=hs161
 refine ⟨nB,?_⟩
 refine wd (Qa ?_)
 exact ⟨M147,cs161,d166,v142,v147,hF125,hS,hb161,hp167,hp168,hp170,hT49_1,hT49_2,hT49_3,hT49_6,hT49_7,hT49_25,hT49_26,hT49_27,hz⟩
 intro v145 M145 w144 hx145 hv145 hS
 replace hv131:=Qz hx145.1 hv131
 replace hv140:=Qz hx145.1 hv140
 replace hG127:=Qd hG127 hx145
 refine Yq hS hG127 fun hR175 => ?_
 obtain ⟨hy142,hs142⟩:=Z1 hr142
 refine w1 8 rfl (Y7 (α := Int) (j:=2) Ji hS rfl rfl rfl hv131 hv140 hy142 ?_)
 intro v142 M142 w141 hx142 hv142 hS
 rw [← hs142] at hv142
 clear hr142 hs142
 replace hv134:=Qz (hx145.1.trans hx142.1) hv134
 replace hv145:=Qz hx142.1 hv145
 replace hG127:=Qd hG127 hx142
 refine Yq hS hG127 fun hR176 => ?_
 obtain ⟨hy147,hs147⟩:=Z1 hr147
 refine w1 19 rfl (Y7 (α := Int) (j:=1) Ji hS rfl rfl rfl hv134 hv145 hy147 ?_)
 intro v147 M147 w146 hx147 hv147 hS
 rw [← hs147] at hv147
 clear hr147 hs147
 replace hb104:=Rep.mono (hx145.1.trans (hx142.1.trans hx147.1)) hb104
 replace hv142:=Qz hx147.1 hv142
 replace hF125:=Qd hF125 (hx145.trans (hx142.trans hx147))
 replace hG127:=Qd hG127 hx147
 refine Yq hS hG127 fun hR177=>wy 20 rfl (Q6 rfl) (fun _=>hR177) <|wy 21 rfl (Qp Vo rfl) (fun _=>hR177) ?_
 have hq158:=(Zo hx152)
 refine w1 22 rfl (Q8 4 1 hS rfl hb104 rfl rfl (Q1 hv142) (Zc hv142) rfl (Yx (rr hb104) (vu (k:=6) rfl rfl (Q5 (rr hb104)) (Je (vp (k:=6) rfl rfl (Q5 (rr hb104)) hx152) (Lf (Yh (vp (k:=6) rfl rfl (Q5 (rr hb104)) hx152)) (Q1 hv142))) hx154)) hd150 ?_)
 intro cs150 w149 hb150 ha150 hs150 hS
 have hp156:=(ha150 (by omega)).trans hp110
 have hp157:=(ha150 (by omega)).trans hp112
 have hp159:=hs150
 refine ⟨nB,?_⟩
 refine wy 23 rfl (Q6 rfl) nB <|wy 24 rfl (Qp V6 rfl) nB ?_
 have hq169:=(Zo hx163)
 refine w1 25 rfl (Q8 4 1 hS rfl hb150 rfl rfl (Q1 hv147) (Zc hv147) rfl (Yx (rr hb150) (vu (k:=6) rfl rfl (Q5 (rr hb150)) (Jf (vp (k:=6) rfl rfl (Q5 (rr hb150)) hx163) (Lf (Yt (vp (k:=6) rfl rfl (Q5 (rr hb150)) hx163)) (Q1 hv147))) hx165)) hd161 ?_)
 intro cs161 w160 hb161 ha161 hs161 hS
 have hp167:=(ha161 (by omega)).trans hp156
 have hp168:=(ha161 (by omega)).trans hp159
 have hp170:=hs161
 refine ⟨nB,?_⟩
 refine wd (Qa ?_)
 exact ⟨M147,cs161,d166,v142,v147,hF125,hS,hb161,hp167,hp168,hp170,hT49_1,hT49_2,hT49_3,hT49_6,hT49_7,hT49_25,hT49_26,hT49_27,hz⟩
 intro v145 M145 w144 hx145 hv145 hS
 replace hG127:=Qd hG127 hx145
 refine Yq hS hG127 fun hR178 => ?_
 refine w1 7 rfl (Z0 (α := Int) (l:=([y58]:List Int)) [.int .i64 y58] qy0 (Ym rfl Vb) rfl rfl (by decide) (by decide) (by decide) hS (K3 (ri y58:rep M145 _ _) Jk) ?_)
 intro v140 M140 w139 hx140 hv140 hS
 replace hv131:=Qz (hx145.1.trans hx140.1) hv131
 replace hG127:=Qd hG127 hx140
 refine Yq hS hG127 fun hR179 => ?_
 obtain ⟨hy142,hs142⟩:=Z1 hr142
 refine w1 8 rfl (Y7 (α := Int) (j:=2) Ji hS rfl rfl rfl hv131 hv140 hy142 ?_)
 intro v142 M142 w141 hx142 hv142 hS
 rw [← hs142] at hv142
 clear hr142 hs142
 replace hv134:=Qz (hx145.1.trans (hx140.1.trans hx142.1)) hv134
 replace hv145:=Qz (hx140.1.trans hx142.1) hv145
 replace hG127:=Qd hG127 hx142
 refine Yq hS hG127 fun hR180 => ?_
 obtain ⟨hy147,hs147⟩:=Z1 hr147
 refine w1 19 rfl (Y7 (α := Int) (j:=1) Ji hS rfl rfl rfl hv134 hv145 hy147 ?_)
 intro v147 M147 w146 hx147 hv147 hS
 rw [← hs147] at hv147
 clear hr147 hs147
 replace hb104:=Rep.mono (hx145.1.trans (hx140.1.trans (hx142.1.trans hx147.1))) hb104
 replace hv142:=Qz hx147.1 hv142
 replace hF125:=Qd hF125 (hx145.trans (hx140.trans (hx142.trans hx147)))
 replace hG127:=Qd hG127 hx147
 refine Yq hS hG127 fun hR181=>wy 20 rfl (Q6 rfl) (fun _=>hR181) <|wy 21 rfl (Qp Vo rfl) (fun _=>hR181) ?_
 have hq158:=(Zo hx152)
 refine w1 22 rfl (Q8 4 1 hS rfl hb104 rfl rfl (Q1 hv142) (Zc hv142) rfl (Yx (rr hb104) (vu (k:=6) rfl rfl (Q5 (rr hb104)) (Je (vp (k:=6) rfl rfl (Q5 (rr hb104)) hx152) (Lf (Yh (vp (k:=6) rfl rfl (Q5 (rr hb104)) hx152)) (Q1 hv142))) hx154)) hd150 ?_)
 intro cs150 w149 hb150 ha150 hs150 hS
 have hp156:=(ha150 (by omega)).trans hp110
 have hp157:=(ha150 (by omega)).trans hp112
 have hp159:=hs150
 refine ⟨nB,?_⟩
 refine wy 23 rfl (Q6 rfl) nB <|wy 24 rfl (Qp V6 rfl) nB ?_
 have hq169:=(Zo hx163)
 refine w1 25 rfl (Q8 4 1 hS rfl hb150 rfl rfl (Q1 hv147) (Zc hv147) rfl (Yx (rr hb150) (vu (k:=6) rfl rfl (Q5 (rr hb150)) (Jf (vp (k:=6) rfl rfl (Q5 (rr hb150)) hx163) (Lf (Yt (vp (k:=6) rfl rfl (Q5 (rr hb150)) hx163)) (Q1 hv147))) hx165)) hd161 ?_)
 intro cs161 w160 hb161 ha161 hs161 hS
 have hp167:=(ha161 (by omega)).trans hp156
 have hp168:=(ha161 (by omega)).trans hp159
 have hp170:=hs161
 refine ⟨nB,?_⟩
 refine wd (Qa ?_)
 exact ⟨M147,cs161,d166,v142,v147,hF125,hS,hb161,hp167,hp168,hp170,hT49_1,hT49_2,hT49_3,hT49_6,hT49_7,hT49_25,hT49_26,hT49_27,hz⟩
 rintro T116 w114 ⟨M115,cs117,d118,v120,v122,hx124,hS,hb117,hp119,hp121,hp123,hT116_1,hT116_2,hT116_3,hT116_6,hT116_7,hT116_25,hT116_26,hT116_27,hz⟩
 replace hF76:=Qd hF76 hx124
 rw [qjr] at hz
 refine (Za ?_)
 refine (Qa ?_)
 exact ⟨M115,cs117,d118,v52,v120,v122,hF76,(Y2 hS hb81),hb117,hp119,hp121,hp123,hT116_1,hT116_2,hT116_3,hT116_6,hT116_7,hT116_25,hT116_26,hT116_27,hz⟩
 replace hz:=Qo hz hc88
 refine Qt (Za ?_)
 refine (Qa ?_)
 exact ⟨M48,cs50,d51,v52,v54,v56,hF76,(Y2 hS hb81),hb50,hp53,hp55,hp57,hT49_1,hT49_2,hT49_3,hT49_6,hT49_7,hT49_25,hT49_26,hT49_27,hz⟩
 rintro T66 w64 ⟨M65,cs67,d68,v69,v71,v73,hx75,hS,hb67,hp70,hp72,hp74,hT66_1,hT66_2,hT66_3,hT66_6,hT66_7,hT66_25,hT66_26,hT66_27,hz⟩
 replace hF61:=Qd hF61 hx75
 rw [qg3] at hz
 refine Qi <|Qc (Zz hT66_27 rfl) <|Qc (Qe (.int .i64 (IntKind.wrap .i64 (y58+1))) rfl) ?_
 refine Qf (Qa ?_)
 exact ⟨M65,cs67,d68,v69,v71,v73,(IntKind.wrap .i64 (y58+1)),hF61,hS,hb67,hp70,hp72,hp74,hT66_1,hT66_2,hT66_3,hT66_6,hT66_7,hT66_25,hT66_26,rfl,(by rw [← hrec59];exact hz)⟩
 replace hz:=Qo hz hc63
 refine Zq <|Qy <|Qy <|Zs ?_
 refine (Qa ?_)
 refine Qh <|Qi <|Qc (Qp qoo hT49_3) ?_
 obtain ⟨v182,ev182,hv182⟩:=(Kv (rr hb50))
 rw [Kd ev182 hp53] at hv182
 refine Qc (Qm v52 Z4 rfl (hS.bvB 3 rfl) hp53) <|Qc (Qe (.int .i64 x3) hT49_1) ?_
 refine Qs (Z0 (α := Int) (l:=([x3]:List Int)) [.int .i64 x3] qy0 (Ym rfl Vb) rfl rfl (by decide) (by decide) (by decide) hS (K3 (ri x3:rep M48 _ _) Jk) ?_)
 intro v184 M184 w183 hx184 hv184 hS
 replace hv182:=Qz hx184.1 hv182
 obtain ⟨l187,hr186,hz⟩:=Qb hz
 obtain ⟨hy186,hs186⟩:=Z1 hr186
 refine Qs (Y7 (α := Int) (j:=4) Ji hS rfl rfl rfl hv182 hv184 hy186 ?_)
 intro v186 M186 w185 hx186 hv186 hS
 rw [← hs186] at hv186
 clear hr186 hs186
 replace zb8:=Rep.mono (hx184.1.trans hx186.1) zb8
 replace hb50:=Rep.mono (hx184.1.trans hx186.1) hb50
 replace hE:=Qd hE (hx184.trans hx186)
 refine Qc (Qp qoo hT49_3) ?_
 obtain ⟨d190,hd189,hz⟩:=Qb hz
 refine Qs (Q8 3 1 hS rfl hb50 rfl rfl (Q1 hv186) (Zc hv186) rfl (GNode.u1 (rr hb50) (Lf (Kv (rr hb50)) (Q1 hv186))) hd189 ?_)
 intro cs189 w188 hb189 ha189 hs189 hS
 have hp191:=(ha189 (by omega)).trans hp55
 have hp192:=(ha189 (by omega)).trans hp57
 have hp193:=hs189
 refine Qf (Qa ?_)
 refine Qh <|Qi ?_
 have ha194:=(rr hb189)
 have hp195:sl (sl cs189 (0) 201) 192 1=[v186]:=(Km (by decide)).trans hp193
 refine Qc (Zf Vk hT49_3 (hS.bvB 3 rfl) (Rep.len ha194)) ?_
 obtain ⟨d198,hd197,hz⟩:=Qb hz
 refine Qs (Q8 2 201 hS rfl zb8 hT49_6 rfl ha194 rfl rfl (Lf (rr zb8) ha194) hd197 ?_)
 intro cs197 w196 hb197 ha197 hs197 hS
 have hp199:sl cs197 (0+192) 1=[v186]:=Kl hs197 hp195 (by decide)
 refine Qf (Qa ?_)
 cases hz
 exact Q4 (Jq (j:=2) rfl hT49_6 (by rw [Rep.len hb197];exact Vk) hS rfl ⟨_,M186,_,rfl,hE,(hS.sel (H':=[.row v186 3 1]) [4] (by decide) rfl),cs197,v186,rfl,rfl,hb197,hp199⟩)
def qcq (y32:Int) (rec33:GNode→Int→Option GNode) (d42:GNode):Option GNode :=
 rec33 d42 (IntKind.wrap .i64 (y32+1))
def qf7 (y64:Int) (rec65:GNode→Int→Option GNode) (d74:GNode):Option GNode :=
 rec65 d74 (IntKind.wrap .i64 (y64+1))
def qb9 (fu:Nat) (x2:Int) (y32:Int) (rec33:GNode→Int→Option GNode) (r55:(List Int)):Nat→GNode→Int→Option GNode
 | 0,_,_=>none
 | n+1,d61,y64 =>
 (bif decide (y64<(r55.length:Int)) then
 (idx r55 y64).bind fun x80 =>
 (inR x80 32).bind fun _ =>
 (qa7 d61.entries x80).bind fun x83 =>
 (bif x83.state==2 then
 (qli fu d61 x80 x2).bind fun r90 =>
 (some r90).bind fun d93 =>
 qf7 y64 (qb9 fu x2 y32 rec33 r55 n) d93
 else
 qf7 y64 (qb9 fu x2 y32 rec33 r55 n) d61)
 else
 qcq y32 rec33 d61)
def qbo (fu:Nat) (x2:Int) (d15:GGraph):Nat→GNode→Int→Option GNode
 | 0,_,_=>none
 | n+1,d29,y32 =>
 (bif decide (y32<32) then
 (inR y32 32).bind fun _ =>
 (qa7 d29.entries y32).bind fun x49 =>
 (bif x49.state != 2 then
 qcq y32 (qbo fu x2 d15 n) d29
 else
 (qo3 fu d15 y32).bind fun r55 =>
 qb9 fu x2 y32 (qbo fu x2 d15 n) r55 fu d29 0)
 else
 (some d29).bind fun d99 =>
 some d99)
def qi0 (fu:Nat) (x1:GNode) (x2:Int):Option GNode :=
 (qjq fu x1).bind fun r10 =>
 (some r10).bind fun d15 =>
 (qb7 fu x1.order).bind fun r19 =>
 (some ({ x1 with order:=r19 }:GNode)).bind fun d23 =>
 qbo fu x2 d15 fu d23 0
theorem qwi {M:Mm} {w:World} {cx1:List Value} {x1:GNode} {x2:Int} {fu:Nat} {r:GNode} (hA:Agree M w) (hcx1:rep M cx1 x1) (hz:qi0 fu x1 x2=some r) :
    Calls Try.prog 89 #[.agg cx1.toArray,.int .i64 x2] w (Gives M w (fun M' u => ∃ cs,u = .agg cs.toArray∧rep M' cs r)):=by
 refine Zh Try.func89 rfl 45 rfl rfl (by kernel_rfl) fun T hT => ?_
 have hT_0:T 0 = .agg cx1.toArray:=hT 0
 have hT_1:T 1 = .int .i64 x2:=hT 1
 clear hT
 have hE:=Qg w.heap.size noX M
 have hS:St w noX M [] w:=Zx hA
 rw [qi0] at hz
 refine Qh <|Qi ?_
 refine Qs (Yo (v := .agg cx1.toArray) (cs:=cx1) hT_0 rfl hS ?_)
 intro b4 w3 hb4 hS
 refine Qs (Zg qxo hS ?_)
 intro b6 w5 hb6 hS
 have zb6:rep M (Zr.zc GNode) (Zr.zd:GNode):=Zr.zr
 refine Qf (Qa ?_)
 refine Qh <|Qi ?_
 have ha7:=(rr hcx1)
 refine Qc (Zf Vk rfl (hS.bvB 1 rfl) (Rep.len ha7)) ?_
 obtain ⟨r10,hr9,hz⟩:=Qb hz
 refine Qs (Y0 (vs:=[.agg (sl cx1 (0) 201).toArray]) (rv:=(fun M' u => ∃ cs,u = .agg cs.toArray∧rep M' cs r10)) cb90 (Zu rfl) hS (qty hS.agree ha7 hr9) ?_)
 intro u9 M9 w8 hx9 hu9 hS
 obtain ⟨c9,hq9,f9⟩:=hu9
 subst hq9
 replace hcx1:=Rep.mono hx9.1 hcx1
 refine Qs (Zg zax hS ?_)
 intro b12 w11 hb12 hS
 have zb12:rep M9 (Zr.zc GGraph) (Zr.zd:GGraph):=Zr.zr
 obtain ⟨d15,hd14,hz⟩:=Qb hz
 refine Qs (Q8 0 64 hS rfl zb12 rfl rfl f9 rfl rfl (Lf (rr zb12) f9) hd14 ?_)
 intro cs14 w13 hb14 ha14 hs14 hS
 refine Qf (Qa ?_)
 refine Qh <|Qi <|Qc (Qp qoo rfl) ?_
 obtain ⟨v16,ev16,hv16⟩:=(Kv (rr hcx1))
 refine Qc (Qm v16 Z4 rfl (hS.bvB 2 rfl) ev16) ?_
 obtain ⟨r19,hr18,hz⟩:=Qb hz
 refine Qs (Zl (vs:=[v16]) (L:=[]) (R:=[.box b12 cs14 61,.box b6 (Zr.zc GNode) 34,.box b4 cx1 34]) (rv:=(fun M' u L' => ∃ v0,u=v0∧L'=[.row v0 3 1]∧repL M' v0 r19)) q5b (Zu rfl) hS (hS.sel [0,1,2] (by decide) rfl) (fun hS=>Vl hS.agree hv16 hr18) ?_)
 rintro u18 M18 w17 L18 hx18 ⟨v0_18,rfl,hL18,f18_0⟩ hS
 replace hS:=hS _ hL18
 replace hcx1:=Rep.mono hx18.1 hcx1
 replace zb6:=Rep.mono (hx9.1.trans hx18.1) zb6
 replace hb14:=Rep.mono hx18.1 hb14
 replace hE:=Qd hE (hx9.trans hx18)
 refine Qc (Qp qoo rfl) ?_
 obtain ⟨d23,hd22,hz⟩:=Qb hz
 refine Qs (Q8 3 1 hS rfl hcx1 rfl rfl (Q1 f18_0) (Zc f18_0) rfl (GNode.u1 (rr hcx1) (Lf (Kv (rr hcx1)) (Q1 f18_0))) hd22 ?_)
 intro cs22 w21 hb22 ha22 hs22 hS
 have hp24:=hs22
 refine Qf (Qa ?_)
 refine Qh <|Qh <|Qi <|Qc (Qe (.int .i64 0) rfl) ?_
 refine Qf (Qa ?_)
 refine Qv ?_
 refine Zw (fun k34 T' w' => ∃ M26 cs28 d29 v30 y32,Mm.ext w.heap.size noX M18 M26∧St w noX M26 [.row v30 3 1,.box b12 cs14 61,.box b6 (Zr.zc GNode) 34,.box b4 cs28 34] w'∧rep M26 cs28 d29∧sl cs28 (0+192) 1=[v30]∧T' 1 = .int .i64 x2∧T' 2 = .pointer (some ⟨b4,0,none⟩)∧T' 4 = .pointer (some ⟨b6,0,none⟩)∧T' 5 = .pointer (some ⟨b12,0,none⟩)∧T' 15 = .int .i64 y32∧qbo fu x2 d15 k34 d29 y32=some r) fu ?_ ?_ ?_
 exact ⟨M18,cs22,d23,u18,(0:Int),(Qg _ _ _),hS,hb22,hp24,hT_1,rfl,rfl,rfl,rfl,hz⟩
 rintro T' w' ⟨_,_,_,_,_,_,_,_,_,_,_,_,_,_,hz⟩
 rw [qbo] at hz
 cases hz
 intro k34
 rintro T27 w25 ⟨M26,cs28,d29,v30,y32,hx36,hS,hb28,hp31,hT27_1,hT27_2,hT27_4,hT27_5,hT27_15,hz⟩
 replace zb6:=Rep.mono hx36.1 zb6
 replace hb14:=Rep.mono hx36.1 hb14
 replace hE:=Qd hE hx36
 have hF35:=hx36
 rw [qbo] at hz
 obtain ⟨rec33,hrec33⟩ : ∃ f,f=qbo fu x2 d15 k34:=⟨_,rfl⟩
 rw [← hrec33] at hz
 refine Qh <|Qi <|Qc (Zv hT27_15 rfl) ?_
 refine Qf (Qa ?_)
 refine Qh ?_
 refine Qr rfl (fun hc37 => ?_) (fun hc37 => ?_)
 replace hz:=Qn hz hc37
 refine Qt (Qa ?_)
 refine Q0 (fun T' w' => ∃ M39 cs41 d42 v43,Mm.ext w.heap.size noX M26 M39∧St w noX M39 [.row v43 3 1,.box b12 cs14 61,.box b6 (Zr.zc GNode) 34,.box b4 cs41 34] w'∧rep M39 cs41 d42∧sl cs41 (0+192) 1=[v43]∧T' 1 = .int .i64 x2∧T' 2 = .pointer (some ⟨b4,0,none⟩)∧T' 4 = .pointer (some ⟨b6,0,none⟩)∧T' 5 = .pointer (some ⟨b12,0,none⟩)∧T' 15 = .int .i64 y32∧qcq y32 rec33 d42=some r) ?_ ?_
 have hF46:=Qg w.heap.size noX M26
 refine Qv <|Qh <|Qi <|Qc (Qe (.int .i64 y32) hT27_15) <|Qc (Qj (.int .i64 y32) rfl) ?_
 refine Qf (Qa ?_)
 refine Qh <|Qh <|Qi <|Qc (Qe (.int .i64 y32) rfl) <|Qc (Qp V5 hT27_2) ?_
 obtain ⟨u47,hx48,hz⟩:=Qb hz
 obtain ⟨hx48a,hx48b⟩:=Qw hx48
 refine Qc (Ze q3m rfl rfl hx48a hx48b) <|Qc (Qp Y6 rfl) ?_
 obtain ⟨x49,hx50,hz⟩:=Qb hz
 refine Qc (Qm (.int .i64 x49.state) Yb rfl (hS.bvB 3 rfl) (Yc (vp (k:=6) rfl rfl (Q5 (rr hb28)) hx50))) <|Qc (Yl rfl rfl) ?_
 refine Qf (Qa ?_)
 refine Qr rfl (fun hc51 => ?_) (fun hc51 => ?_)
 replace hz:=Qn hz hc51
 refine Zq <|Qy <|Zs ?_
 refine (Qa ?_)
 exact ⟨M26,cs28,d29,v30,hF46,hS,hb28,hp31,hT27_1,hT27_2,hT27_4,hT27_5,hT27_15,hz⟩
 replace hz:=Qo hz hc51
 refine Qt (Qa ?_)
 refine Qh <|Qi ?_
 have ha52:=(rr hb14)
 refine Qc (Zf q69 hT27_5 (hS.bvB 1 rfl) (Rep.len ha52)) <|Qc (Qe (.int .i64 y32) rfl) ?_
 obtain ⟨r55,hr54,hz⟩:=Qb hz
 refine Qs (Y0 (vs:=[.agg (sl cs14 (0) 64).toArray,.int .i64 y32]) (rv:=(fun M' u=>repL M' u r55)) cb26 (Z8 rfl rfl) hS (q1p hS.agree ha52 hr54) ?_)
 intro u54 M54 w53 hx54 hu54 hS
 have f54:repL M54 u54 r55:=hu54
 replace hb28:=Rep.mono hx54.1 hb28
 replace hF46:=Qd hF46 hx54
 obtain ⟨a56,c56,hv56,_⟩:=Q3 f54
 refine Qc (Zj Qu (Vv hv56 rfl)) <|Qc (Qe (.int .i64 0) rfl) ?_
 refine Qf (Qa ?_)
 refine Qv ?_
 refine Zw (fun k66 T' w' => ∃ M58 cs60 d61 v62 y64,Mm.ext w.heap.size noX M54 M58∧St w noX M58 [.row v62 3 1,.box b12 cs14 61,.box b6 (Zr.zc GNode) 34,.box b4 cs60 34] w'∧rep M58 cs60 d61∧sl cs60 (0+192) 1=[v62]∧T' 1 = .int .i64 x2∧T' 2 = .pointer (some ⟨b4,0,none⟩)∧T' 4 = .pointer (some ⟨b6,0,none⟩)∧T' 5 = .pointer (some ⟨b12,0,none⟩)∧T' 15 = .int .i64 y32∧T' 26=u54∧T' 27 = .int .i64 (r55.length:Int)∧T' 28 = .int .i64 y64∧qb9 fu x2 y32 rec33 r55 k66 d61 y64=some r) fu ?_ ?_ ?_
 exact ⟨M54,cs28,d29,v30,(0:Int),(Qg _ _ _),hS,hb28,hp31,hT27_1,hT27_2,hT27_4,hT27_5,hT27_15,rfl,rfl,rfl,hz⟩
 rintro T' w' ⟨_,_,_,_,_,_,_,_,_,_,_,_,_,_,_,_,_,hz⟩
 rw [qb9] at hz
 cases hz
 intro k66
 rintro T59 w57 ⟨M58,cs60,d61,v62,y64,hx68,hS,hb60,hp63,hT59_1,hT59_2,hT59_4,hT59_5,hT59_15,hT59_26,hT59_27,hT59_28,hz⟩
 replace f54:=Qz hx68.1 f54
 replace hF46:=Qd hF46 hx68
 have hF67:=hx68
 rw [qb9] at hz
 obtain ⟨rec65,hrec65⟩ : ∃ f,f=qb9 fu x2 y32 rec33 r55 k66:=⟨_,rfl⟩
 rw [← hrec65] at hz
 refine Qh <|Qi <|Qc (Zv hT59_28 hT59_27) ?_
 refine Qf (Qa ?_)
 refine Qh ?_
 refine Qr rfl (fun hc69 => ?_) (fun hc69 => ?_)
 replace hz:=Qn hz hc69
 refine Qt (Qa ?_)
 refine Q0 (fun T' w' => ∃ M71 cs73 d74 v75,Mm.ext w.heap.size noX M58 M71∧St w noX M71 [.row v75 3 1,.box b12 cs14 61,.box b6 (Zr.zc GNode) 34,.box b4 cs73 34] w'∧rep M71 cs73 d74∧sl cs73 (0+192) 1=[v75]∧T' 1 = .int .i64 x2∧T' 2 = .pointer (some ⟨b4,0,none⟩)∧T' 4 = .pointer (some ⟨b6,0,none⟩)∧T' 5 = .pointer (some ⟨b12,0,none⟩)∧T' 15 = .int .i64 y32∧T' 26=u54∧T' 27 = .int .i64 (r55.length:Int)∧T' 28 = .int .i64 y64∧qf7 y64 rec65 d74=some r) ?_ ?_
 have hF78:=Qg w.heap.size noX M58
 refine Qv <|Qh <|Qi ?_
 obtain ⟨x80,hx79,hz⟩:=Qb hz
 obtain ⟨b79,o79,c79,p79,hv79,hi79,hj79,hM79,hr79⟩:=Yf f54 hx79
 replace hr79:rep _ (sl p79 (o79+Int.toNat y64*1) 1) x80:=hr79
 refine Qc (Ys V2 hT59_26 hv79 hT59_28 hi79 hj79) <|Qc (Qm (.int .i64 x80) Yb rfl (hS.bvM hM79) hr79) <|Qc (Qj (.int .i64 x80) rfl) ?_
 refine Qf (Qa ?_)
 refine Qh <|Qi <|Qc (Qe (.int .i64 x80) rfl) <|Qc (Qp V5 hT59_2) ?_
 obtain ⟨u81,hx82,hz⟩:=Qb hz
 obtain ⟨hx82a,hx82b⟩:=Qw hx82
 refine Qc (Ze q3m rfl rfl hx82a hx82b) <|Qc (Qp Y6 rfl) ?_
 obtain ⟨x83,hx84,hz⟩:=Qb hz
 refine Qc (Qm (.int .i64 x83.state) Yb rfl (hS.bvB 3 rfl) (Yc (vp (k:=6) rfl rfl (Q5 (rr hb60)) hx84))) <|Qc (Yd rfl rfl) ?_
 refine Qf (Qa ?_)
 refine Qr rfl (fun hc85 => ?_) (fun hc85 => ?_)
 replace hz:=Qn hz hc85
 refine Qi ?_
 have ha86:=(rr hb60)
 have hp87:sl (sl cs60 (0) 201) 192 1=[v62]:=(Km (by decide)).trans hp63
 refine Qc (Zf Vk hT59_2 (hS.bvB 3 rfl) (Rep.len ha86)) <|Qc (Qe (.int .i64 x80) rfl) <|Qc (Qe (.int .i64 x2) hT59_1) ?_
 obtain ⟨r90,hr89,hz⟩:=Qb hz
 refine Qs (Zl (vs:=[.agg (sl cs60 (0) 201).toArray,.int .i64 x80,.int .i64 x2]) (L:=[.row v62 3 1]) (R:=[.box b12 cs14 61,.box b6 (Zr.zc GNode) 34,.box b4 cs60 34]) (rv:=(fun M' u L' => ∃ c0 u0,u = .agg c0.toArray∧L'=[.row u0 3 1]∧rep M' c0 r90∧sl c0 192 1=[u0])) cb91 (Jj rfl rfl rfl) hS (hS.sel [0,1,2,3] (by decide) rfl) (fun hS=>qy6 hS ha86 hp87 hr89) ?_)
 rintro u89 M89 w88 L89 hx89 ⟨c0_89,u0_89,rfl,hL89,f89_0,f89_1⟩ hS
 replace hS:=hS _ hL89
 replace hb60:=Rep.mono hx89.1 hb60
 replace hF78:=Qd hF78 hx89
 obtain ⟨d93,hd92,hz⟩:=Qb hz
 refine Qs (Q8 3 201 hS rfl hb60 hT59_2 rfl f89_0 rfl rfl (Lf (rr hb60) f89_0) hd92 ?_)
 intro cs92 w91 hb92 ha92 hs92 hS
 have hp94:sl cs92 (0+192) 1=[u0_89]:=Kl hs92 f89_1 (by decide)
 refine Qf (Za ?_)
 refine (Qa ?_)
 exact ⟨M89,cs92,d93,u0_89,hF78,hS,hb92,hp94,hT59_1,hT59_2,hT59_4,hT59_5,hT59_15,hT59_26,hT59_27,hT59_28,hz⟩
 replace hz:=Qo hz hc85
 refine Qt (Za ?_)
 refine (Qa ?_)
 exact ⟨M58,cs60,d61,v62,hF78,hS,hb60,hp63,hT59_1,hT59_2,hT59_4,hT59_5,hT59_15,hT59_26,hT59_27,hT59_28,hz⟩
 rintro T72 w70 ⟨M71,cs73,d74,v75,hx77,hS,hb73,hp76,hT72_1,hT72_2,hT72_4,hT72_5,hT72_15,hT72_26,hT72_27,hT72_28,hz⟩
 replace hF67:=Qd hF67 hx77
 rw [qf7] at hz
 refine Qi <|Qc (Zz hT72_28 rfl) <|Qc (Qe (.int .i64 (IntKind.wrap .i64 (y64+1))) rfl) ?_
 refine Qf (Qa ?_)
 exact ⟨M71,cs73,d74,v75,(IntKind.wrap .i64 (y64+1)),hF67,hS,hb73,hp76,hT72_1,hT72_2,hT72_4,hT72_5,hT72_15,hT72_26,hT72_27,rfl,(by rw [← hrec65];exact hz)⟩
 replace hz:=Qo hz hc69
 refine Zq <|Qy <|Qy <|Zs ?_
 refine (Za ?_)
 refine (Qa ?_)
 exact ⟨M58,cs60,d61,v62,hF46,hS,hb60,hp63,hT59_1,hT59_2,hT59_4,hT59_5,hT59_15,hz⟩
 rintro T40 w38 ⟨M39,cs41,d42,v43,hx45,hS,hb41,hp44,hT40_1,hT40_2,hT40_4,hT40_5,hT40_15,hz⟩
 replace hF35:=Qd hF35 hx45
 rw [qcq] at hz
 refine Qi <|Qc (Zz hT40_15 rfl) <|Qc (Qe (.int .i64 (IntKind.wrap .i64 (y32+1))) rfl) ?_
 refine Qf (Qa ?_)
 exact ⟨M39,cs41,d42,v43,(IntKind.wrap .i64 (y32+1)),hF35,hS,hb41,hp44,hT40_1,hT40_2,hT40_4,hT40_5,rfl,(by rw [← hrec33];exact hz)⟩
 replace hz:=Qo hz hc37
 refine Zq <|Qy <|Qy <|Zs ?_
 refine (Qa ?_)
 refine Qh <|Qi ?_
 have ha95:=(rr hb28)
 have hp96:sl (sl cs28 (0) 201) 192 1=[v30]:=(Km (by decide)).trans hp31
 refine Qc (Zf Vk hT27_2 (hS.bvB 3 rfl) (Rep.len ha95)) ?_
 obtain ⟨d99,hd98,hz⟩:=Qb hz
 refine Qs (Q8 2 201 hS rfl zb6 hT27_4 rfl ha95 rfl rfl (Lf (rr zb6) ha95) hd98 ?_)
 intro cs98 w97 hb98 ha98 hs98 hS
 have hp100:sl cs98 (0+192) 1=[v30]:=Kl hs98 hp96 (by decide)
 refine Qf (Qa ?_)
 cases hz
 exact Q4 (Jq (j:=2) rfl hT27_4 (by rw [Rep.len hb98];exact Vk) hS rfl (Zk (Ql (Ql (Ql (Ql hS)))) hE ⟨_,rfl,hb98⟩))
def qku (d50:GNode) (l51:List GFrame) (y53:Int):Option (GNode × (List GFrame) × Int) :=
 some (d50,l51,y53)
def qen (x2:Int) (x3:GFrame) (d44:GNode):Option (GNode × (List GFrame) × Int) :=
 (qa7 d44.entries x3.id).bind fun x60 =>
 (some ({ kind:=2,node:=x2,id:=x3.id,ops:=Zr.zd,deps:=x60.first,at_:=Zr.zd,vals:=Zr.zd }:GFrame)).bind fun d64 =>
 (some d44).bind fun d69 =>
 qku d69 ([d64]:List GFrame) 0
def qf8 (d102:GNode) (l112:List GFrame):Option (GNode × (List GFrame) × Int) :=
 (some d102).bind fun d118 =>
 some (d118,l112,0)
def qf9 (x2:Int) (x3:GFrame) (d102:GNode) (d105:GFrame) (d129:GEntry) (c133:Bool):Option (GNode × (List GFrame) × Int) :=
 (bif c133 then
 (some ({ kind:=5,node:=x2,id:=x3.id,ops:=Zr.zd,deps:=Zr.zd,at_:=d129.at_,vals:=d129.values }:GFrame)).bind fun d139 =>
 (app ([d105]:List GFrame) ([d139]:List GFrame)).bind fun l144 =>
 qf8 d102 l144
 else
 qf8 d102 ([d105]:List GFrame))
def qeo (x2:Int) (x3:GFrame) (r27:Int) (d102:GNode):Option (GNode × (List GFrame) × Int) :=
 (some ({ kind:=4,node:=x2,id:=x3.id,ops:=Zr.zd,deps:=Zr.zd,at_:=Zr.zd,vals:=Zr.zd }:GFrame)).bind fun d105 =>
 (inR x3.id 32).bind fun _ =>
 (qa7 d102.entries x3.id).bind fun x122 =>
 (some x122).bind fun d129 =>
 (bif d129.state==3 then
 (some (qac d129.ops r27)).bind fun r150 =>
 qf9 x2 x3 d102 d105 d129 r150
 else
 qf9 x2 x3 d102 d105 d129 false)
def qep (fu:Nat) (x2:Int) (x3:GFrame) (r27:Int) (d159:GNode):Option (GNode × (List GFrame) × Int) :=
 (qa7 d159.entries x3.id).bind fun x168 =>
 (qe2 d159.entries x3.id ({ x168 with state:=2 })).bind fun a170 =>
 (some ({ d159 with entries:=a170 }:GNode)).bind fun d172 =>
 (qa7 d172.entries x3.id).bind fun x176 =>
 (qe2 d172.entries x3.id ({ x176 with ops:=x3.ops })).bind fun a178 =>
 (some ({ d172 with entries:=a178 }:GNode)).bind fun d180 =>
 (qa7 d180.entries x3.id).bind fun x184 =>
 (qe2 d180.entries x3.id ({ x184 with deps:=x3.deps })).bind fun a186 =>
 (some ({ d180 with entries:=a186 }:GNode)).bind fun d188 =>
 (qi0 fu d188 r27).bind fun r193 =>
 (some r193).bind fun d196 =>
 qeo x2 x3 r27 d196
def qeq (fu:Nat) (x1:GNode) (x2:Int) (x3:GFrame) (d14:GNode):Option (GNode × (List GFrame) × Int) :=
 (some (qak x3)).bind fun r19 =>
 (bif r19 != 0 then
 (some x1).bind fun d24 =>
 some (d24,[],r19)
 else
 (some (ofZ x2)).bind fun r27 =>
 (inR x3.id 32).bind fun _ =>
 (bif x3.kind==1 then
 (some (qac x3.ops r27)).bind fun r34 =>
 (bif !r34 then
 (some x1).bind fun d39 =>
 some (d39,[],4)
 else
 (qa7 x1.entries x3.id).bind fun x75 =>
 (bif x75.state==0 then
 (qft fu x1 x3.id x3.ops r27).bind fun r86 =>
 (some ({ state:=1,ops:=x3.ops,first:=r86,deps:=Zr.zd,at_:=Zr.zd,values:=Zr.zd }:GEntry)).bind fun d89 =>
 (qa7 x1.entries x3.id).bind fun x92 =>
 (qe2 x1.entries x3.id d89).bind fun a94 =>
 (some ({ x1 with entries:=a94 }:GNode)).bind fun d96 =>
 qen x2 x3 d96
 else
 qen x2 x3 x1))
 else
 (bif x3.kind==3 then
 (qa7 x1.entries x3.id).bind fun x152 =>
 (bif decide (x152.state<2) then
 (qa7 x1.entries x3.id).bind fun x198 =>
 (bif x198.state==0 then
 (qft fu x1 x3.id x3.ops r27).bind fun r205 =>
 (qa7 x1.entries x3.id).bind fun x208 =>
 (qe2 x1.entries x3.id ({ x208 with first:=r205 })).bind fun a210 =>
 (some ({ x1 with entries:=a210 }:GNode)).bind fun d212 =>
 qep fu x2 x3 r27 d212
 else
 qep fu x2 x3 r27 x1)
 else
 qeo x2 x3 r27 x1)
 else
 (some x1).bind fun d216 =>
 some (d216,[],3))))
def qer (fu:Nat) (x1:GNode) (x2:Int) (x3:GFrame) (c221:Bool):Option (GNode × (List GFrame) × Int) :=
 (bif c221 then
 (some x1).bind fun d227 =>
 some (d227,[],2)
 else
 qeq fu x1 x2 x3 (Zr.zd:GNode))
def qg4 (fu:Nat) (x1:GNode) (x2:Int) (x3:GFrame):Option (GNode × (List GFrame) × Int) :=
 (qiz fu x1).bind fun r232 =>
 (bif !r232 then
 qer fu x1 x2 x3 true
 else
 (qml fu x2).bind fun r236 =>
 (bif !r236 then
 qer fu x1 x2 x3 true
 else
 qer fu x1 x2 x3 (x3.node != x2)))
theorem qkv {M:Mm} {w:World} {cx1:List Value} {cx3:List Value} {x1:GNode} {x2:Int} {x3:GFrame} {fu:Nat} {r:GNode × (List GFrame) × Int} (hA:Agree M w) (hcx1:rep M cx1 x1) (hcx3:rep M cx3 x3) (hz:qg4 fu x1 x2 x3=some r) :
    Calls Try.prog 81 #[.agg cx1.toArray,.int .i64 x2,.agg cx3.toArray] w (Gives M w (fun M' u => ∃ c0 v1,u = .tuple #[.agg c0.toArray,v1,.int .i64 r.2.2]∧rep M' c0 r.1∧repL M' v1 r.2.1)):=by
 refine Zh Try.func81 rfl 149 rfl rfl (by kernel_rfl) fun T hT => ?_
 have hT_0:T 0 = .agg cx1.toArray:=hT 0
 have hT_1:T 1 = .int .i64 x2:=hT 1
 have hT_2:T 2 = .agg cx3.toArray:=hT 2
 clear hT
 have hE:=Qg w.heap.size noX M
 have hS:St w noX M [] w:=Zx hA
 rw [qg4] at hz
 refine Qh <|Qi ?_
 refine Qs (Yo (v := .agg cx1.toArray) (cs:=cx1) hT_0 rfl hS ?_)
 intro b5 w4 hb5 hS
 refine Qs (Yo (v := .agg cx3.toArray) (cs:=cx3) hT_2 rfl hS ?_)
 intro b7 w6 hb7 hS
 refine Qs (Zg qxo hS ?_)
 intro b9 w8 hb9 hS
 have zb9:rep M (Zr.zc GNode) (Zr.zd:GNode):=Zr.zr
 refine Q2 2 rfl ?_
 refine Qf (Qa ?_)
 refine Q0 (fun T' w' => ∃ M11 cs13 d14,Mm.ext w.heap.size noX M M11∧St w noX M11 [.box b9 cs13 34,.box b7 cx3 118,.box b5 cx1 34] w'∧rep M11 cs13 d14∧T' 1 = .int .i64 x2∧T' 3 = .pointer (some ⟨b5,0,none⟩)∧T' 5 = .pointer (some ⟨b7,0,none⟩)∧T' 6 = .pointer (some ⟨b9,0,none⟩)∧qeq fu x1 x2 x3 d14=some r) ?_ ?_
 have hF217:=Qg w.heap.size noX M
 refine Q0 (fun T' w' => ∃ M219 c221,Mm.ext w.heap.size noX M M219∧St w noX M219 [.box b9 (Zr.zc GNode) 34,.box b7 cx3 118,.box b5 cx1 34] w'∧T' 1 = .int .i64 x2∧T' 3 = .pointer (some ⟨b5,0,none⟩)∧T' 5 = .pointer (some ⟨b7,0,none⟩)∧T' 6 = .pointer (some ⟨b9,0,none⟩)∧T' 27 = .bool c221∧qer fu x1 x2 x3 c221=some r) ?_ ?_
 have hF228:=Qg w.heap.size noX M
 refine Qi ?_
 have ha229:=(rr hcx1)
 refine Qc (Zf Vk rfl (hS.bvB 2 rfl) (Rep.len ha229)) ?_
 obtain ⟨r232,hr231,hz⟩:=Qb hz
 refine Qs (Z6 (vs:=[.agg (sl cx1 (0) 201).toArray]) (v := .bool r232) cb37 (Zu rfl) hS (qwh hS.agree ha229 hr231) ?_)
 intro w230 hS
 refine Qc (Ye rfl) <|Qc (Qe (.bool (!r232)) rfl) ?_
 rcases ic hz with ⟨hc233,hz⟩ | ⟨hc233,hz⟩<;>rw [hc233]
 refine Q2 10 rfl ?_
 refine Qf (Qa ?_)
 exact ⟨M,true,hF228,hS,hT_1,rfl,rfl,rfl,rfl,hz⟩
 refine Qk rfl rfl (Qe (.int .i64 x2) hT_1) ?_
 obtain ⟨r236,hr235,hz⟩:=Qb hz
 refine Kf rfl rfl (Z6 (vs:=[.int .i64 x2]) (v := .bool r236) cb87 (Zu rfl) hS (qtx hS.agree hr235) ?_)
 intro w234 hS
 refine Qk rfl rfl (Ye rfl) <|Q2 2 rfl ?_
 rcases ic hz with ⟨hc237,hz⟩ | ⟨hc237,hz⟩<;>rw [hc237]
 refine Q2 5 rfl ?_
 refine Qf (Qa ?_)
 exact ⟨M,true,hF228,hS,hT_1,rfl,rfl,rfl,rfl,hz⟩
 refine Qk rfl rfl (Qp V8 rfl) <|Qk rfl rfl (Qm (.int .i64 x3.node) Yb rfl (hS.bvB 1 rfl) (Vg (rr hcx3))) <|Qk rfl rfl (Qe (.int .i64 x2) hT_1) <|Qk rfl rfl (Yl rfl rfl) <|Qc (Zi (.bool (x3.node != x2)) rfl rfl) ?_
 refine Qf (Qa ?_)
 exact ⟨M,(x3.node != x2),hF228,hS,hT_1,rfl,rfl,rfl,rfl,hz⟩
 rintro T220 w218 ⟨M219,c221,hx222,hS,hT220_1,hT220_3,hT220_5,hT220_6,hT220_27,hz⟩
 replace hcx1:=Rep.mono hx222.1 hcx1
 replace zb9:=Rep.mono hx222.1 zb9
 replace hE:=Qd hE hx222
 replace hF217:=Qd hF217 hx222
 rw [qer] at hz
 refine Qr hT220_27 (fun hc223 => ?_) (fun hc223 => ?_)
 replace hz:=Qn hz hc223
 refine Qh <|Qi ?_
 have ha224:=(rr hcx1)
 refine Qc (Zf Vk hT220_3 (hS.bvB 2 rfl) (Rep.len ha224)) ?_
 obtain ⟨d227,hd226,hz⟩:=Qb hz
 refine Qs (Q8 0 201 hS rfl zb9 hT220_6 rfl ha224 rfl rfl (Lf (rr zb9) ha224) hd226 ?_)
 intro cs226 w225 hb226 ha226 hs226 hS
 refine Q2 2 rfl ?_
 refine Qf (Qa ?_)
 cases hz
 exact Q4 (Qq (V7 (j:=0) rfl hT220_6 rfl rfl (by rw [Rep.len hb226];exact Vk) hS rfl (Zk (Ql (Ql (Ql hS))) hE ⟨_,_,rfl,hb226,(Z5 _)⟩)))
 replace hz:=Qo hz hc223
 refine Qt (Qa ?_)
 exact ⟨M219,(Zr.zc GNode),(Zr.zd:GNode),hF217,hS,zb9,hT220_1,hT220_3,hT220_5,hT220_6,hz⟩
 rintro T12 w10 ⟨M11,cs13,d14,hx15,hS,hb13,hT12_1,hT12_3,hT12_5,hT12_6,hz⟩
 replace hcx1:=Rep.mono hx15.1 hcx1
 replace hcx3:=Rep.mono hx15.1 hcx3
 replace hE:=Qd hE hx15
 rw [qeq] at hz
 refine Qh <|Qh <|Qi ?_
 have ha16:=(rr hcx3)
 refine Qc (Zf K1 hT12_5 (hS.bvB 1 rfl) (Rep.len ha16)) ?_
 obtain ⟨r19,hr18,hz⟩:=Qb hz
 replace hr18:=Option.some.inj hr18
 refine Qs (Z6 (vs:=[.agg (sl cx3 (0) 7).toArray]) (v := .int .i64 r19) q9p (Zu rfl) hS (hr18 ▸ (qxu hS.agree ha16)) ?_)
 intro w17 hS
 refine Qc (Qj (.int .i64 r19) rfl) ?_
 refine Qf (Qa ?_)
 refine Qh <|Qi <|Qc (Qe (.int .i64 r19) rfl) <|Qc (Yl rfl rfl) ?_
 refine Qf (Qa ?_)
 refine Qr rfl (fun hc20 => ?_) (fun hc20 => ?_)
 replace hz:=Qn hz hc20
 refine Qh <|Qi ?_
 have ha21:=(rr hcx1)
 refine Qc (Zf Vk hT12_3 (hS.bvB 2 rfl) (Rep.len ha21)) <|Qc (Qe (.int .i64 r19) rfl) ?_
 obtain ⟨d24,hd23,hz⟩:=Qb hz
 refine Qs (Q8 0 201 hS rfl hb13 hT12_6 rfl ha21 rfl rfl (Lf (rr hb13) ha21) hd23 ?_)
 intro cs23 w22 hb23 ha23 hs23 hS
 refine Q2 2 rfl ?_
 refine Qf (Qa ?_)
 cases hz
 exact Q4 (Qq (V7 (j:=0) rfl hT12_6 rfl rfl (by rw [Rep.len hb23];exact Vk) hS rfl (Zk (Ql (Ql (Ql hS))) hE ⟨_,_,rfl,hb23,(Z5 _)⟩)))
 replace hz:=Qo hz hc20
 refine Qt (Qa ?_)
 refine Qh <|Qi <|Qc (Qe (.int .i64 x2) hT12_1) ?_
 obtain ⟨r27,hr26,hz⟩:=Qb hz
 replace hr26:=Option.some.inj hr26
 refine Qs (Z6 (vs:=[.int .i64 x2]) (v := .int .i64 r27) q8v (Zu rfl) hS (hr26 ▸ (q82)) ?_)
 intro w25 hS
 refine Qc (Qj (.int .i64 r27) rfl) ?_
 refine Qf (Qa ?_)
 refine Qh <|Qi <|Qc (Qp Yk hT12_5) <|Qc (Qm (.int .i64 x3.id) Yb rfl (hS.bvB 1 rfl) (Z9 (rr hcx3))) <|Qc (Qp V5 hT12_3) ?_
 obtain ⟨u28,hx29,hz⟩:=Qb hz
 obtain ⟨hx29a,hx29b⟩:=Qw hx29
 refine Qc (Ze q3m rfl rfl hx29a hx29b) <|Qc (Qj (.pointer (some ⟨b5,0+0+Int.toNat x3.id*6,none⟩)) rfl) ?_
 refine Qf (Qa ?_)
 refine Qh <|Qh <|Qi <|Qc (Qp Vu hT12_5) <|Qc (Qm (.int .i64 x3.kind) Yb rfl (hS.bvB 1 rfl) (Y1 (rr hcx3))) ?_
 refine Qf (Qa ?_)
 refine Qv <|Qh <|Qi <|Qc (Yd rfl rfl) <|Qc (Qj (.bool (x3.kind==1)) rfl) ?_
 refine Qf (Qa ?_)
 refine Qr rfl (fun hc30 => ?_) (fun hc30 => ?_)
 replace hz:=Qn hz hc30
 refine Qh <|Qh <|Qi <|Qc (Qp Vz hT12_5) ?_
 obtain ⟨v31,ev31,hv31⟩:=(Va (rr hcx3))
 refine Qc (Qm v31 Vp rfl (hS.bvB 1 rfl) ev31) <|Qc (Qe (.int .i64 r27) rfl) ?_
 obtain ⟨r34,hr33,hz⟩:=Qb hz
 replace hr33:=Option.some.inj hr33
 refine Qs (Z6 (vs:=[v31,.int .i64 r27]) (v := .bool r34) q8u (Z8 rfl rfl) hS (hr33 ▸ (Ja hS.agree hv31)) ?_)
 intro w32 hS
 refine Qc (Ye rfl) ?_
 refine Qf (Qa ?_)
 refine Qr rfl (fun hc35 => ?_) (fun hc35 => ?_)
 replace hz:=Qn hz hc35
 refine Qh <|Qi ?_
 have ha36:=(rr hcx1)
 refine Qc (Zf Vk hT12_3 (hS.bvB 2 rfl) (Rep.len ha36)) ?_
 obtain ⟨d39,hd38,hz⟩:=Qb hz
 refine Qs (Q8 0 201 hS rfl hb13 hT12_6 rfl ha36 rfl rfl (Lf (rr hb13) ha36) hd38 ?_)
 intro cs38 w37 hb38 ha38 hs38 hS
 refine Q2 2 rfl ?_
 refine Qf (Qa ?_)
 cases hz
 exact Q4 (Qq (Zb (Qq (V7 (j:=0) rfl hT12_6 rfl rfl (by rw [Rep.len hb38];exact Vk) hS rfl (Zk (Ql (Ql (Ql hS))) hE ⟨_,_,rfl,hb38,(Z5 _)⟩)))))
 replace hz:=Qo hz hc35
 refine Qt (Qa ?_)
 refine Q0 (fun T' w' => ∃ M41 cs43 d44,Mm.ext w.heap.size noX M11 M41∧St w noX M41 [.box b9 cs13 34,.box b7 cx3 118,.box b5 cs43 34] w'∧rep M41 cs43 d44∧T' 1 = .int .i64 x2∧T' 3 = .pointer (some ⟨b5,0,none⟩)∧T' 5 = .pointer (some ⟨b7,0,none⟩)∧T' 6 = .pointer (some ⟨b9,0,none⟩)∧T' 11 = .pointer (some ⟨b5,0+0+Int.toNat x3.id*6,none⟩)∧qen x2 x3 d44=some r) ?_ ?_
 have hF74:=Qg w.heap.size noX M11
 refine Qh <|Qi <|Qc (Qe (.pointer (some ⟨b5,0+0+Int.toNat x3.id*6,none⟩)) rfl) <|Qc (Q6 rfl) <|Qc (Qp Y6 rfl) ?_
 obtain ⟨x75,hx76,hz⟩:=Qb hz
 refine Qc (Qm (.int .i64 x75.state) Yb rfl (hS.bvB 2 rfl) (Yc (vp (k:=6) rfl rfl (Q5 (rr hcx1)) hx76))) <|Qc (Yd rfl rfl) ?_
 refine Qf (Qa ?_)
 refine Qr rfl (fun hc77 => ?_) (fun hc77 => ?_)
 replace hz:=Qn hz hc77
 refine Yu [.box b7 cx3 118,.box b5 cx1 34] [12] Ya hS fun w78 hS hG79 hR80=>wy 0 rfl (Qe (.pointer (some ⟨b5,0+0+Int.toNat x3.id*6,none⟩)) rfl) (fun _=>hR80) <|wy 1 rfl (Qp Vz hT12_5) (fun _=>hR80) ?_
 obtain ⟨v81,ev81,hv81⟩:=(Va (rr hcx3))
 refine Y8 2 rfl (Qm v81 Vp rfl (Yp 0 rfl) ev81) hR80 ?_
 have ha82:=(rr hcx1)
 refine Y8 3 rfl (Zf Vk hT12_3 (Yp 1 rfl) (Rep.len ha82)) hR80 <|wy 4 rfl (Qp Yk hT12_5) (fun _=>hR80) <|Y8 5 rfl (Qm (.int .i64 x3.id) Yb rfl (Yp 0 rfl) (Z9 (rr hcx3))) hR80 <|wy 6 rfl (Qp Vz hT12_5) (fun _=>hR80) ?_
 obtain ⟨v83,ev83,hv83⟩:=(Va (rr hcx3))
 refine Y8 7 rfl (Qm v83 Vp rfl (Yp 0 rfl) ev83) hR80 <|wy 8 rfl (Qe (.int .i64 r27) rfl) (fun _=>hR80) ?_
 obtain ⟨r86,hr85,hz⟩:=Qb hz
 refine w1 9 rfl (Y0 (vs:=[.agg (sl cx1 (0) 201).toArray,.int .i64 x3.id,v83,.int .i64 r27]) (rv:=(fun M' u=>repL M' u r86)) cb88 (q5t rfl rfl rfl rfl) hS (qm7 hS.agree ha82 hv83 hr85) ?_)
 intro u85 M85 w84 hx85 hu85 hS
 have f85:repL M85 u85 r86:=hu85
 replace hcx1:=Rep.mono hx85.1 hcx1
 replace hv81:=Qz hx85.1 hv81
 replace hF74:=Qd hF74 hx85
 replace hG79:=Qd hG79 hx85
 refine Yq hS hG79 fun hR87 => ?_
 have k88_0:=GEntry.w0 (Zr.zr:rep M85 (Zr.zc GEntry) (Zr.zd:GEntry)) (ri 1:rep M85 _ _)
 have k88_1:=GEntry.w1 k88_0 (Q1 hv81)
 have k88_2:=GEntry.w2 k88_1 (Q1 f85)
 obtain ⟨d89,hd88,hz⟩:=Qb hz
 obtain ⟨cs88,hf88,ha88⟩ : ∃ cs,qbj (([(0,1),(1,1),(2,1),(3,1),(4,1),(5,1)]:List (Nat × Nat))[·]?) (Zr.zc GEntry) [(0,.int .i64 1),(1,v81),(2,u85)]=some cs∧rep M85 cs d89:=⟨_,(Q9 (Zr.zr:rep M85 (Zr.zc GEntry) (Zr.zd:GEntry)) rfl rfl (Rep.len (ri 1:rep M85 _ _)) (by decide) (Q9 k88_0 rfl (Zc hv81) (Rep.len (Q1 hv81)) (by decide) (Q9 k88_1 rfl (Zc f85) (Rep.len (Q1 f85)) (by decide) Z2))),Z3 (x:=({ state:=1,ops:=x3.ops,first:=r86,deps:=Zr.zd,at_:=Zr.zd,values:=Zr.zd }:GEntry)) k88_2 hd88⟩
 refine wy 10 rfl (Zt [(0,.int .i64 1),(1,v81),(2,u85)] tb30 (Ym rfl (Ym rfl (Ym rfl Vb))) hf88) (fun _=>hR87) <|wy 11 rfl (Q6 rfl) (fun _=>hR87) ?_
 obtain ⟨x92,hx93,hz⟩:=Qb hz
 obtain ⟨a94,hx95,hz⟩:=Qb hz
 obtain ⟨d96,hd91,hz⟩:=Qb hz
 refine w1 12 rfl (Q8 2 6 hS rfl hcx1 rfl rfl ha88 rfl rfl (Yx (rr hcx1) (vu (k:=6) rfl rfl (Q5 (rr hcx1)) (Lf (vp (k:=6) rfl rfl (Q5 (rr hcx1)) hx93) ha88) hx95)) hd91 ?_)
 intro cs91 w90 hb91 ha91 hs91 hS
 refine ⟨nB,?_⟩
 refine wd (Qa ?_)
 exact ⟨M85,cs91,d96,hF74,hS,hb91,hT12_1,hT12_3,hT12_5,hT12_6,rfl,hz⟩
 replace hz:=Qo hz hc77
 refine Qt (Qa ?_)
 exact ⟨M11,cx1,x1,hF74,hS,hcx1,hT12_1,hT12_3,hT12_5,hT12_6,rfl,hz⟩
 rintro T42 w40 ⟨M41,cs43,d44,hx45,hS,hb43,hT42_1,hT42_3,hT42_5,hT42_6,hT42_11,hz⟩
 replace hcx3:=Rep.mono hx45.1 hcx3
 replace hb13:=Rep.mono hx45.1 hb13
 replace hE:=Qd hE hx45
 rw [qen] at hz
 refine Q0 (fun T' w' => ∃ M47 cs49 d50 v52 l51 y53,Mm.ext w.heap.size noX M41 M47∧St w noX M47 [.box b9 cs49 34,.box b7 cx3 118,.box b5 cs43 34] w'∧rep M47 cs49 d50∧repL M47 v52 l51∧T' 6 = .pointer (some ⟨b9,0,none⟩)∧T' 7=v52∧T' 8 = .int .i64 y53∧qku d50 l51 y53=some r) ?_ ?_
 have hF55:=Qg w.heap.size noX M41
 refine Yu [.box b7 cx3 118,.box b5 cs43 34] [] Ya hS fun w56 hS hG57 hR58 => ?_
 have ha59:=(rr hb43)
 refine Y8 0 rfl (Zf Vk hT42_3 (Yp 1 rfl) (Rep.len ha59)) hR58 <|wy 1 rfl (Qe (.int .i64 x2) hT42_1) (fun _=>hR58) <|wy 2 rfl (Qp Yk hT42_5) (fun _=>hR58) <|Y8 3 rfl (Qm (.int .i64 x3.id) Yb rfl (Yp 0 rfl) (Z9 (rr hcx3))) hR58 <|wy 4 rfl (Qe (.pointer (some ⟨b5,0+0+Int.toNat x3.id*6,none⟩)) hT42_11) (fun _=>hR58) <|wy 5 rfl (Q6 rfl) (fun _=>hR58) <|wy 6 rfl (Qp qon rfl) (fun _=>hR58) ?_
 obtain ⟨x60,hx61,hz⟩:=Qb hz
 obtain ⟨v62,ev62,hv62⟩:=(Kc (vp (k:=6) rfl rfl (Q5 (rr hb43)) hx61))
 refine Y8 7 rfl (Qm v62 Z4 rfl (Yp 1 rfl) ev62) hR58 ?_
 have k63_0:=Kr (Zr.zr:rep M41 (Zr.zc GFrame) (Zr.zd:GFrame)) (ri 2:rep M41 _ _)
 have k63_1:=Ks k63_0 (ri x2:rep M41 _ _)
 have k63_2:=Ku k63_1 (ri x3.id:rep M41 _ _)
 have k63_3:=GFrame.w4 k63_2 (Q1 hv62)
 obtain ⟨d64,hd63,hz⟩:=Qb hz
 obtain ⟨cs63,hf63,ha63⟩ : ∃ cs,qbj (([(0,1),(1,1),(2,1),(3,1),(4,1),(5,1),(6,1)]:List (Nat × Nat))[·]?) (Zr.zc GFrame) [(0,.int .i64 2),(1,.int .i64 x2),(2,.int .i64 x3.id),(4,v62)]=some cs∧rep M41 cs d64:=⟨_,(Q9 (Zr.zr:rep M41 (Zr.zc GFrame) (Zr.zd:GFrame)) rfl rfl (Rep.len (ri 2:rep M41 _ _)) (by decide) (Q9 k63_0 rfl rfl (Rep.len (ri x2:rep M41 _ _)) (by decide) (Q9 k63_1 rfl rfl (Rep.len (ri x3.id:rep M41 _ _)) (by decide) (Q9 k63_2 rfl (Zc hv62) (Rep.len (Q1 hv62)) (by decide) Z2)))),Z3 (x:=({ kind:=2,node:=x2,id:=x3.id,ops:=Zr.zd,deps:=x60.first,at_:=Zr.zd,vals:=Zr.zd }:GFrame)) k63_3 hd63⟩
 refine wy 8 rfl (Zt [(0,.int .i64 2),(1,.int .i64 x2),(2,.int .i64 x3.id),(4,v62)] qv5 (Ym rfl (Ym rfl (Ym rfl (Ym rfl Vb)))) hf63) (fun _=>hR58) ?_
 obtain ⟨d69,hd68,hz⟩:=Qb hz
 refine qtl (i:=9) (j:=10) (by kernel_rfl) rfl rfl (Z0 (α := GFrame) (l:=([d64]:List GFrame)) [.agg cs63.toArray] q8s (Ym rfl Vb) rfl rfl (by decide) (by decide) (by decide) hS (K3 ha63 Jk) ?_) (Q8 0 201 hS rfl hb13 hT42_6 rfl ha59 rfl rfl (Lf (rr hb13) ha59) hd68 ?_)
 intro v66 M66 w65 hx66 hv66 hS
 replace hb13:=Rep.mono hx66.1 hb13
 replace ha59:=Rep.mono hx66.1 ha59
 replace hF55:=Qd hF55 hx66
 replace hG57:=Qd hG57 hx66
 refine Yq hS hG57 fun hR70 => ?_
 refine w1 10 rfl (Q8 0 201 hS rfl hb13 hT42_6 rfl ha59 rfl rfl (Lf (rr hb13) ha59) hd68 ?_)
 intro cs68 w67 hb68 ha68 hs68 hS
 refine Yq hS hG57 fun hR71=>wy 11 rfl (Qj (v66) rfl) (fun _=>hR71) <|wy 12 rfl (Qj (.int .i64 0) rfl) (fun _=>hR71) ?_
 refine wd (Qa ?_)
 exact ⟨M66,cs68,d69,v66,([d64]:List GFrame),(0:Int),hF55,hS,hb68,hv66,hT42_6,rfl,rfl,hz⟩
 intro cs68 w67 hb68 ha68 hs68 hS
 refine Yq hS hG57 fun hR72 => ?_
 refine w1 9 rfl (Z0 (α := GFrame) (l:=([d64]:List GFrame)) [.agg cs63.toArray] q8s (Ym rfl Vb) rfl rfl (by decide) (by decide) (by decide) hS (K3 ha63 Jk) ?_)
 intro v66 M66 w65 hx66 hv66 hS
 replace hb68:=Rep.mono hx66.1 hb68
 replace hF55:=Qd hF55 hx66
 replace hG57:=Qd hG57 hx66
 refine Yq hS hG57 fun hR73=>wy 11 rfl (Qj (v66) rfl) (fun _=>hR73) <|wy 12 rfl (Qj (.int .i64 0) rfl) (fun _=>hR73) ?_
 refine wd (Qa ?_)
 exact ⟨M66,cs68,d69,v66,([d64]:List GFrame),(0:Int),hF55,hS,hb68,hv66,hT42_6,rfl,rfl,hz⟩
 rintro T48 w46 ⟨M47,cs49,d50,v52,l51,y53,hx54,hS,hb49,hv52,hT48_6,hT48_7,hT48_8,hz⟩
 replace hE:=Qd hE hx54
 rw [qku] at hz
 cases hz
 exact Q4 (Zb (Qq (V7 (j:=0) rfl hT48_6 hT48_7 hT48_8 (by rw [Rep.len hb49];exact Vk) hS rfl (Zk (Ql (Ql (Ql hS))) hE ⟨_,_,rfl,hb49,hv52⟩))))
 replace hz:=Qo hz hc30
 refine Qh <|Qi <|Qc (Yd rfl rfl) <|Qc (Qj (.bool (x3.kind==3)) rfl) ?_
 refine Qf (Qa ?_)
 refine Qr rfl (fun hc97 => ?_) (fun hc97 => ?_)
 replace hz:=Qn hz hc97
 refine Q0 (fun T' w' => ∃ M99 cs101 d102,Mm.ext w.heap.size noX M11 M99∧St w noX M99 [.box b9 cs13 34,.box b7 cx3 118,.box b5 cs101 34] w'∧rep M99 cs101 d102∧T' 1 = .int .i64 x2∧T' 3 = .pointer (some ⟨b5,0,none⟩)∧T' 5 = .pointer (some ⟨b7,0,none⟩)∧T' 6 = .pointer (some ⟨b9,0,none⟩)∧T' 10 = .int .i64 r27∧qeo x2 x3 r27 d102=some r) ?_ ?_
 have hF151:=Qg w.heap.size noX M11
 refine Qh <|Qi <|Qc (Qe (.pointer (some ⟨b5,0+0+Int.toNat x3.id*6,none⟩)) rfl) <|Qc (Q6 rfl) <|Qc (Qp Y6 rfl) ?_
 obtain ⟨x152,hx153,hz⟩:=Qb hz
 refine Qc (Qm (.int .i64 x152.state) Yb rfl (hS.bvB 2 rfl) (Yc (vp (k:=6) rfl rfl (Q5 (rr hcx1)) hx153))) <|Qc (Zv rfl rfl) ?_
 refine Qf (Qa ?_)
 refine Qr rfl (fun hc154 => ?_) (fun hc154 => ?_)
 replace hz:=Qn hz hc154
 refine Q0 (fun T' w' => ∃ M156 cs158 d159,Mm.ext w.heap.size noX M11 M156∧St w noX M156 [.box b9 cs13 34,.box b7 cx3 118,.box b5 cs158 34] w'∧rep M156 cs158 d159∧T' 1 = .int .i64 x2∧T' 3 = .pointer (some ⟨b5,0,none⟩)∧T' 5 = .pointer (some ⟨b7,0,none⟩)∧T' 6 = .pointer (some ⟨b9,0,none⟩)∧T' 10 = .int .i64 r27∧T' 11 = .pointer (some ⟨b5,0+0+Int.toNat x3.id*6,none⟩)∧qep fu x2 x3 r27 d159=some r) ?_ ?_
 have hF197:=Qg w.heap.size noX M11
 refine Qh <|Qi <|Qc (Qe (.pointer (some ⟨b5,0+0+Int.toNat x3.id*6,none⟩)) rfl) <|Qc (Q6 rfl) <|Qc (Qp Y6 rfl) ?_
 obtain ⟨x198,hx199,hz⟩:=Qb hz
 refine Qc (Qm (.int .i64 x198.state) Yb rfl (hS.bvB 2 rfl) (Yc (vp (k:=6) rfl rfl (Q5 (rr hcx1)) hx199))) <|Qc (Yd rfl rfl) ?_
 refine Qf (Qa ?_)
 refine Qr rfl (fun hc200 => ?_) (fun hc200 => ?_)
 replace hz:=Qn hz hc200
 refine Qi <|Qc (Qe (.pointer (some ⟨b5,0+0+Int.toNat x3.id*6,none⟩)) rfl) ?_
 have ha201:=(rr hcx1)
 refine Qc (Zf Vk hT12_3 (hS.bvB 2 rfl) (Rep.len ha201)) <|Qc (Qp Yk hT12_5) <|Qc (Qm (.int .i64 x3.id) Yb rfl (hS.bvB 1 rfl) (Z9 (rr hcx3))) <|Qc (Qp Vz hT12_5) ?_
 obtain ⟨v202,ev202,hv202⟩:=(Va (rr hcx3))
 refine Qc (Qm v202 Vp rfl (hS.bvB 1 rfl) ev202) <|Qc (Qe (.int .i64 r27) rfl) ?_
 obtain ⟨r205,hr204,hz⟩:=Qb hz
 refine Qs (Y0 (vs:=[.agg (sl cx1 (0) 201).toArray,.int .i64 x3.id,v202,.int .i64 r27]) (rv:=(fun M' u=>repL M' u r205)) cb88 (q5t rfl rfl rfl rfl) hS (qm7 hS.agree ha201 hv202 hr204) ?_)
 intro u204 M204 w203 hx204 hu204 hS
 have f204:repL M204 u204 r205:=hu204
 replace hcx1:=Rep.mono hx204.1 hcx1
 replace hF197:=Qd hF197 hx204
 refine Qc (Q6 rfl) <|Qc (Qp qon rfl) ?_
 obtain ⟨x208,hx209,hz⟩:=Qb hz
 obtain ⟨a210,hx211,hz⟩:=Qb hz
 obtain ⟨d212,hd207,hz⟩:=Qb hz
 refine Qs (Q8 2 1 hS rfl hcx1 rfl rfl (Q1 f204) (Zc f204) rfl (Yx (rr hcx1) (vu (k:=6) rfl rfl (Q5 (rr hcx1)) (GEntry.u2 (vp (k:=6) rfl rfl (Q5 (rr hcx1)) hx209) (Lf (Kc (vp (k:=6) rfl rfl (Q5 (rr hcx1)) hx209)) (Q1 f204))) hx211)) hd207 ?_)
 intro cs207 w206 hb207 ha207 hs207 hS
 refine Qf (Qa ?_)
 exact ⟨M204,cs207,d212,hF197,hS,hb207,hT12_1,hT12_3,hT12_5,hT12_6,rfl,rfl,hz⟩
 replace hz:=Qo hz hc200
 refine Qt (Qa ?_)
 exact ⟨M11,cx1,x1,hF197,hS,hcx1,hT12_1,hT12_3,hT12_5,hT12_6,rfl,rfl,hz⟩
 rintro T157 w155 ⟨M156,cs158,d159,hx160,hS,hb158,hT157_1,hT157_3,hT157_5,hT157_6,hT157_10,hT157_11,hz⟩
 replace hcx3:=Rep.mono hx160.1 hcx3
 rw [qep] at hz
 refine Qh <|Yu [.box b7 cx3 118] [] Ya hS fun w161 hS hG162 hR163=>wy 0 rfl (Qe (.pointer (some ⟨b5,0+0+Int.toNat x3.id*6,none⟩)) hT157_11) (fun _=>hR163) <|wy 1 rfl (Qe (.pointer (some ⟨b5,0+0+Int.toNat x3.id*6,none⟩)) hT157_11) (fun _=>hR163) <|wy 2 rfl (Qe (.pointer (some ⟨b5,0+0+Int.toNat x3.id*6,none⟩)) hT157_11) (fun _=>hR163) <|wy 3 rfl (Qp Vz hT157_5) (fun _=>hR163) ?_
 obtain ⟨v164,ev164,hv164⟩:=(Va (rr hcx3))
 refine Y8 4 rfl (Qm v164 Vp rfl (Yp 0 rfl) ev164) hR163 <|wy 5 rfl (Qp Y4 hT157_5) (fun _=>hR163) ?_
 obtain ⟨v165,ev165,hv165⟩:=(Yi (rr hcx3))
 refine Y8 6 rfl (Qm v165 Z4 rfl (Yp 0 rfl) ev165) hR163 <|wy 7 rfl (Q6 rfl) (fun _=>hR163) <|wy 8 rfl (Qp Y6 rfl) (fun _=>hR163) ?_
 obtain ⟨x168,hx169,hz⟩:=Qb hz
 obtain ⟨a170,hx171,hz⟩:=Qb hz
 obtain ⟨d172,hd167,hz⟩:=Qb hz
 refine w1 9 rfl (Q8 2 1 hS rfl hb158 rfl rfl (ri 2:rep M156 _ _) rfl rfl (Yx (rr hb158) (vu (k:=6) rfl rfl (Q5 (rr hb158)) (GEntry.u0 (vp (k:=6) rfl rfl (Q5 (rr hb158)) hx169) (Lf (Yc (vp (k:=6) rfl rfl (Q5 (rr hb158)) hx169)) (ri 2:rep M156 _ _))) hx171)) hd167 ?_)
 intro cs167 w166 hb167 ha167 hs167 hS
 refine Yq hS hG162 fun hR173=>wy 10 rfl (Q6 rfl) (fun _=>hR173) <|wy 11 rfl (Qp K7 rfl) (fun _=>hR173) ?_
 obtain ⟨x176,hx177,hz⟩:=Qb hz
 obtain ⟨a178,hx179,hz⟩:=Qb hz
 obtain ⟨d180,hd175,hz⟩:=Qb hz
 refine w1 12 rfl (Q8 2 1 hS rfl hb167 rfl rfl (Q1 hv164) (Zc hv164) rfl (Yx (rr hb167) (vu (k:=6) rfl rfl (Q5 (rr hb167)) (GEntry.u1 (vp (k:=6) rfl rfl (Q5 (rr hb167)) hx177) (Lf (Vs (vp (k:=6) rfl rfl (Q5 (rr hb167)) hx177)) (Q1 hv164))) hx179)) hd175 ?_)
 intro cs175 w174 hb175 ha175 hs175 hS
 refine Yq hS hG162 fun hR181=>wy 13 rfl (Q6 rfl) (fun _=>hR181) <|wy 14 rfl (Qp Jo rfl) (fun _=>hR181) ?_
 obtain ⟨x184,hx185,hz⟩:=Qb hz
 obtain ⟨a186,hx187,hz⟩:=Qb hz
 obtain ⟨d188,hd183,hz⟩:=Qb hz
 refine w1 15 rfl (Q8 2 1 hS rfl hb175 rfl rfl (Q1 hv165) (Zc hv165) rfl (Yx (rr hb175) (vu (k:=6) rfl rfl (Q5 (rr hb175)) (GEntry.u3 (vp (k:=6) rfl rfl (Q5 (rr hb175)) hx185) (Lf (Vx (vp (k:=6) rfl rfl (Q5 (rr hb175)) hx185)) (Q1 hv165))) hx187)) hd183 ?_)
 intro cs183 w182 hb183 ha183 hs183 hS
 refine Yq hS hG162 fun hR189 => ?_
 refine wd (Qa ?_)
 refine Qi ?_
 have ha190:=(rr hb183)
 refine Qc (Zf Vk hT157_3 (hS.bvB 2 rfl) (Rep.len ha190)) <|Qc (Qe (.int .i64 r27) hT157_10) ?_
 obtain ⟨r193,hr192,hz⟩:=Qb hz
 refine Qs (Y0 (vs:=[.agg (sl cs183 (0) 201).toArray,.int .i64 r27]) (rv:=(fun M' u => ∃ cs,u = .agg cs.toArray∧rep M' cs r193)) cb89 (Z8 rfl rfl) hS (qwi hS.agree ha190 hr192) ?_)
 intro u192 M192 w191 hx192 hu192 hS
 obtain ⟨c192,hq192,f192⟩:=hu192
 subst hq192
 replace hb183:=Rep.mono hx192.1 hb183
 replace hF151:=Qd hF151 (hx160.trans hx192)
 obtain ⟨d196,hd195,hz⟩:=Qb hz
 refine Qs (Q8 2 201 hS rfl hb183 hT157_3 rfl f192 rfl rfl (Lf (rr hb183) f192) hd195 ?_)
 intro cs195 w194 hb195 ha195 hs195 hS
 refine Qf (Qa ?_)
 exact ⟨M192,cs195,d196,hF151,hS,hb195,hT157_1,hT157_3,hT157_5,hT157_6,hT157_10,hz⟩
 replace hz:=Qo hz hc154
 refine Qt (Qa ?_)
 exact ⟨M11,cx1,x1,hF151,hS,hcx1,hT12_1,hT12_3,hT12_5,hT12_6,rfl,hz⟩
 rintro T100 w98 ⟨M99,cs101,d102,hx103,hS,hb101,hT100_1,hT100_3,hT100_5,hT100_6,hT100_10,hz⟩
 replace hcx3:=Rep.mono hx103.1 hcx3
 rw [qeo] at hz
 refine Qh <|Qi <|Qc (Qe (.int .i64 x2) hT100_1) <|Qc (Qp Yk hT100_5) <|Qc (Qm (.int .i64 x3.id) Yb rfl (hS.bvB 1 rfl) (Z9 (rr hcx3))) ?_
 have k104_0:=Kr (Zr.zr:rep M99 (Zr.zc GFrame) (Zr.zd:GFrame)) (ri 4:rep M99 _ _)
 have k104_1:=Ks k104_0 (ri x2:rep M99 _ _)
 have k104_2:=Ku k104_1 (ri x3.id:rep M99 _ _)
 obtain ⟨d105,hd104,hz⟩:=Qb hz
 obtain ⟨cs104,hf104,ha104⟩ : ∃ cs,qbj (([(0,1),(1,1),(2,1),(3,1),(4,1),(5,1),(6,1)]:List (Nat × Nat))[·]?) (Zr.zc GFrame) [(0,.int .i64 4),(1,.int .i64 x2),(2,.int .i64 x3.id)]=some cs∧rep M99 cs d105:=⟨_,(Q9 (Zr.zr:rep M99 (Zr.zc GFrame) (Zr.zd:GFrame)) rfl rfl (Rep.len (ri 4:rep M99 _ _)) (by decide) (Q9 k104_0 rfl rfl (Rep.len (ri x2:rep M99 _ _)) (by decide) (Q9 k104_1 rfl rfl (Rep.len (ri x3.id:rep M99 _ _)) (by decide) Z2))),Z3 (x:=({ kind:=4,node:=x2,id:=x3.id,ops:=Zr.zd,deps:=Zr.zd,at_:=Zr.zd,vals:=Zr.zd }:GFrame)) k104_2 hd104⟩
 refine Qc (Zt [(0,.int .i64 4),(1,.int .i64 x2),(2,.int .i64 x3.id)] qv5 (Ym rfl (Ym rfl (Ym rfl Vb))) hf104) ?_
 refine Qs (qs8 (α := GFrame) (l:=([d105]:List GFrame)) [.agg cs104.toArray] q8r (Ym rfl Vb) rfl rfl (by decide) (by decide) (by decide) hS (K3 ha104 Jk) ?_)
 intro v107 M107 w106 hx107 hv107 hS
 replace hcx3:=Rep.mono hx107.1 hcx3
 replace hb13:=Rep.mono (hx103.1.trans hx107.1) hb13
 replace hb101:=Rep.mono hx107.1 hb101
 replace hE:=Qd hE (hx103.trans hx107)
 refine Qc (Qj (v107) rfl) ?_
 refine Qf (Qa ?_)
 refine Q0 (fun T' w' => ∃ M110 v113 l112,Mm.ext w.heap.size noX M107 M110∧St w noX M110 [.row v113 118 7,.box b9 cs13 34,.box b7 cx3 118,.box b5 cs101 34] w'∧repL M110 v113 l112∧T' 3 = .pointer (some ⟨b5,0,none⟩)∧T' 6 = .pointer (some ⟨b9,0,none⟩)∧T' 12=v113∧qf8 d102 l112=some r) ?_ ?_
 have hF119:=Qg w.heap.size noX M107
 refine Qh <|Qi <|Qc (Qp Yk hT100_5) <|Qc (Qm (.int .i64 x3.id) Yb rfl (hS.bvB 2 rfl) (Z9 (rr hcx3))) <|Qc (Qp V5 hT100_3) ?_
 obtain ⟨u120,hx121,hz⟩:=Qb hz
 obtain ⟨hx121a,hx121b⟩:=Qw hx121
 refine Qc (Ze q3m rfl rfl hx121a hx121b) ?_
 obtain ⟨x122,hx123,hz⟩:=Qb hz
 have ha124:=(vp (k:=6) rfl rfl (Q5 (rr hb101)) hx123)
 refine Qc (Zf q9f rfl (hS.bvB 3 rfl) (Rep.len ha124)) ?_
 refine Qs (Zg q68 hS ?_)
 intro b126 w125 hb126 hS
 have zb126:rep M107 (Zr.zc GEntry) (Zr.zd:GEntry):=Zr.zr
 obtain ⟨d129,hd128,hz⟩:=Qb hz
 refine Qs (Q8 0 6 hS rfl zb126 rfl rfl ha124 rfl rfl (Lf (rr zb126) ha124) hd128 ?_)
 intro cs128 w127 hb128 ha128 hs128 hS
 refine Qf (Qa ?_)
 refine Q0 (fun T' w' => ∃ M131 c133,Mm.ext w.heap.size noX M107 M131∧St w noX M131 [.box b126 cs128 30,.row v107 118 7,.box b9 cs13 34,.box b7 cx3 118,.box b5 cs101 34] w'∧T' 1 = .int .i64 x2∧T' 3 = .pointer (some ⟨b5,0,none⟩)∧T' 5 = .pointer (some ⟨b7,0,none⟩)∧T' 6 = .pointer (some ⟨b9,0,none⟩)∧T' 12=v107∧T' 13 = .pointer (some ⟨b126,0,none⟩)∧T' 134 = .bool c133∧qf9 x2 x3 d102 d105 d129 c133=some r) ?_ ?_
 have hF145:=Qg w.heap.size noX M107
 refine Qi <|Qc (Qp Y6 rfl) <|Qc (Qm (.int .i64 d129.state) Yb rfl (hS.bvB 0 rfl) (Yc (rr hb128))) <|Qc (Yd rfl rfl) <|Qc (Qe (.bool (d129.state==3)) rfl) ?_
 rcases ic hz with ⟨hc146,hz⟩ | ⟨hc146,hz⟩<;>rw [hc146]
 refine Qk rfl rfl (Qp K7 rfl) ?_
 obtain ⟨v147,ev147,hv147⟩:=(Vs (rr hb128))
 refine Qk rfl rfl (Qm v147 Vp rfl (hS.bvB 0 rfl) ev147) <|Qk rfl rfl (Qe (.int .i64 r27) hT100_10) ?_
 obtain ⟨r150,hr149,hz⟩:=Qb hz
 replace hr149:=Option.some.inj hr149
 refine Kf rfl rfl (Z6 (vs:=[v147,.int .i64 r27]) (v := .bool r150) q8u (Z8 rfl rfl) hS (hr149 ▸ (Ja hS.agree hv147)) ?_)
 intro w148 hS
 refine Qc (Zy (.bool r150) rfl rfl) ?_
 refine Qf (Qa ?_)
 exact ⟨M107,r150,hF145,hS,hT100_1,hT100_3,hT100_5,hT100_6,rfl,rfl,rfl,hz⟩
 refine Q2 5 rfl ?_
 refine Qf (Qa ?_)
 exact ⟨M107,false,hF145,hS,hT100_1,hT100_3,hT100_5,hT100_6,rfl,rfl,rfl,hz⟩
 rintro T132 w130 ⟨M131,c133,hx134,hS,hT132_1,hT132_3,hT132_5,hT132_6,hT132_12,hT132_13,hT132_134,hz⟩
 replace hcx3:=Rep.mono hx134.1 hcx3
 replace hv107:=Qz hx134.1 hv107
 replace hb128:=Rep.mono hx134.1 hb128
 replace hF119:=Qd hF119 hx134
 rw [qf9] at hz
 refine Qr hT132_134 (fun hc135 => ?_) (fun hc135 => ?_)
 replace hz:=Qn hz hc135
 refine Qi <|Qc (Qe (v107) hT132_12) <|Qc (Qe (.int .i64 x2) hT132_1) <|Qc (Qp Yk hT132_5) <|Qc (Qm (.int .i64 x3.id) Yb rfl (hS.bvB 3 rfl) (Z9 (rr hcx3))) <|Qc (Qp Vo hT132_13) ?_
 obtain ⟨v136,ev136,hv136⟩:=(Yh (rr hb128))
 refine Qc (Qm v136 Z4 rfl (hS.bvB 0 rfl) ev136) <|Qc (Qp V6 hT132_13) ?_
 obtain ⟨v137,ev137,hv137⟩:=(Yt (rr hb128))
 refine Qc (Qm v137 Z4 rfl (hS.bvB 0 rfl) ev137) ?_
 have k138_0:=Kr (Zr.zr:rep M131 (Zr.zc GFrame) (Zr.zd:GFrame)) (ri 5:rep M131 _ _)
 have k138_1:=Ks k138_0 (ri x2:rep M131 _ _)
 have k138_2:=Ku k138_1 (ri x3.id:rep M131 _ _)
 have k138_3:=GFrame.w5 k138_2 (Q1 hv136)
 have k138_4:=GFrame.w6 k138_3 (Q1 hv137)
 obtain ⟨d139,hd138,hz⟩:=Qb hz
 obtain ⟨cs138,hf138,ha138⟩ : ∃ cs,qbj (([(0,1),(1,1),(2,1),(3,1),(4,1),(5,1),(6,1)]:List (Nat × Nat))[·]?) (Zr.zc GFrame) [(0,.int .i64 5),(1,.int .i64 x2),(2,.int .i64 x3.id),(5,v136),(6,v137)]=some cs∧rep M131 cs d139:=⟨_,(Q9 (Zr.zr:rep M131 (Zr.zc GFrame) (Zr.zd:GFrame)) rfl rfl (Rep.len (ri 5:rep M131 _ _)) (by decide) (Q9 k138_0 rfl rfl (Rep.len (ri x2:rep M131 _ _)) (by decide) (Q9 k138_1 rfl rfl (Rep.len (ri x3.id:rep M131 _ _)) (by decide) (Q9 k138_2 rfl (Zc hv136) (Rep.len (Q1 hv136)) (by decide) (Q9 k138_3 rfl (Zc hv137) (Rep.len (Q1 hv137)) (by decide) Z2))))),Z3 (x:=({ kind:=5,node:=x2,id:=x3.id,ops:=Zr.zd,deps:=Zr.zd,at_:=d129.at_,vals:=d129.values }:GFrame)) k138_4 hd138⟩
 refine Qc (Zt [(0,.int .i64 5),(1,.int .i64 x2),(2,.int .i64 x3.id),(5,v136),(6,v137)] qv5 (Ym rfl (Ym rfl (Ym rfl (Ym rfl (Ym rfl Vb))))) hf138) ?_
 refine Qs (Z0 (α := GFrame) (l:=([d139]:List GFrame)) [.agg cs138.toArray] q8s (Ym rfl Vb) rfl rfl (by decide) (by decide) (by decide) hS (K3 ha138 Jk) ?_)
 intro v141 M141 w140 hx141 hv141 hS
 replace hv107:=Qz hx141.1 hv107
 obtain ⟨l144,hr143,hz⟩:=Qb hz
 obtain ⟨hy143,hs143⟩:=Z1 hr143
 refine Qs (Y7 (α := GFrame) (j:=1) q8r hS rfl rfl rfl hv107 hv141 hy143 ?_)
 intro v143 M143 w142 hx143 hv143 hS
 rw [← hs143] at hv143
 clear hr143 hs143
 replace hF119:=Qd hF119 (hx141.trans hx143)
 refine Qc (Qj (v143) rfl) ?_
 refine Qf (Qa ?_)
 exact ⟨M143,v143,l144,hF119,(Y2 hS hb126),hv143,hT132_3,hT132_6,rfl,hz⟩
 replace hz:=Qo hz hc135
 refine Qt (Qa ?_)
 exact ⟨M131,v107,([d105]:List GFrame),hF119,(Y2 hS hb126),hv107,hT132_3,hT132_6,hT132_12,hz⟩
 rintro T111 w109 ⟨M110,v113,l112,hx114,hS,hv113,hT111_3,hT111_6,hT111_12,hz⟩
 replace hb13:=Rep.mono hx114.1 hb13
 replace hb101:=Rep.mono hx114.1 hb101
 replace hE:=Qd hE hx114
 rw [qf8] at hz
 refine Qh <|Qi ?_
 have ha115:=(rr hb101)
 refine Qc (Zf Vk hT111_3 (hS.bvB 3 rfl) (Rep.len ha115)) <|Qc (Qe (v113) hT111_12) ?_
 obtain ⟨d118,hd117,hz⟩:=Qb hz
 refine Qs (Q8 1 201 hS rfl hb13 hT111_6 rfl ha115 rfl rfl (Lf (rr hb13) ha115) hd117 ?_)
 intro cs117 w116 hb117 ha117 hs117 hS
 refine Q2 2 rfl ?_
 refine Qf (Qa ?_)
 cases hz
 exact Q4 (Zb (Qq (V7 (j:=1) rfl hT111_6 rfl rfl (by rw [Rep.len hb117];exact Vk) hS rfl (Zk (Ql (Ql (Ql (Ql hS)))) hE ⟨_,_,rfl,hb117,hv113⟩))))
 replace hz:=Qo hz hc97
 refine Qt (Za ?_)
 refine (Qa ?_)
 refine Qh <|Qi ?_
 have ha213:=(rr hcx1)
 refine Qc (Zf Vk hT12_3 (hS.bvB 2 rfl) (Rep.len ha213)) ?_
 obtain ⟨d216,hd215,hz⟩:=Qb hz
 refine Qs (Q8 0 201 hS rfl hb13 hT12_6 rfl ha213 rfl rfl (Lf (rr hb13) ha213) hd215 ?_)
 intro cs215 w214 hb215 ha215 hs215 hS
 refine Q2 2 rfl ?_
 refine Qf (Qa ?_)
 cases hz
 exact Q4 (V7 (j:=0) rfl hT12_6 rfl rfl (by rw [Rep.len hb215];exact Vk) hS rfl (Zk (Ql (Ql (Ql hS))) hE ⟨_,_,rfl,hb215,(Z5 _)⟩))
end Go.Proofs.Yteilffoclpgijaa
