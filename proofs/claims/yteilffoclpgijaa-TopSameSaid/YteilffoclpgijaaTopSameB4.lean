/- What the proof of TopSame rests on, part 4: rules of walks, what functions compute, and plain laws of it. -/
import Derived.Test.YteilffoclpgijaaTopSameB3
import Derived.Test.YteilffoclpgijaaProg
import Derived.Shelf.Slices.Delete
namespace Go.Proofs.Yteilffoclpgijaa
open Go.RowKit
open Rep (rep)
set_option linter.unusedVariables false
abbrev K0 := @fa34_1
abbrev Vz := @GNode.p1
abbrev Kk := @fa34_0
abbrev Y9 := @fa30_0
abbrev Yf := @GEntry.p0
abbrev Q5 := @GNode.p0
abbrev K8 := @fa30_1
abbrev Vt := @GEntry.p1
abbrev Kd := @GEntry.p2
abbrev Jn := @fa30_3
abbrev V2 := @GEntry.p3
abbrev Vp := @fa30_4
abbrev Yh := @GEntry.p4
abbrev V8 := @fa30_5
abbrev Yv := @GEntry.p5
abbrev Yy := @GNode.u0
abbrev Jf := @GEntry.u4
abbrev Jg := @GEntry.u5
abbrev Vu := @sl_one_eq
abbrev Kq := @sl_sub
abbrev Vc := @ta34
abbrev Kn := @sl_in
abbrev Vk := @cloneInts_ok
def nodeIs_j1 (c5:Bool):Option Bool :=
 some c5
def nodeIsD (fu:Nat) (x1:Int):Option Bool :=
 (bif decide (x1≥0) then
 nodeIs_j1 (decide (x1<6))
 else
 nodeIs_j1 false)
set_option maxRecDepth 100000 in
set_option maxHeartbeats 4000000 in
theorem nodeIs_ok {M:Mm} {w:World} {x1:Int} {fu:Nat} {r:Bool} (hA:Agree M w)  (hz:nodeIsD fu x1=some r) :
    Calls Try.prog 87 #[.int .i64 x1] w (GivesV w (.bool r)):=by
 refine Zh Try.func87 rfl 9 rfl rfl (by kernel_rfl) fun T hT => ?_
 have hT_0:T 0 = .int .i64 x1:=hT 0
 clear hT
 have hE:=Qg w.heap.size noX M
 have hS:St w noX M [] w:=Zv hA
 rw [nodeIsD] at hz
 refine Qh <|Qi <|Qd (Qj (.bool false) rfl) ?_
 refine Qf (Qa ?_)
 refine Qz (fun T' w' => ∃ M3 c5,Mm.ext w.heap.size noX M M3∧St w noX M3 [] w'∧T' 2 = .bool c5∧nodeIs_j1 c5=some r) ?_ ?_
 have hF7:=Qg w.heap.size noX M
 refine Qi <|Qd (Qe (.int .i64 x1) hT_0) <|Qd (Va rfl rfl) <|Qd (Qe (.bool (decide (x1≥0))) rfl) ?_
 rcases ic hz with ⟨hc8,hz⟩ | ⟨hc8,hz⟩<;>rw [hc8]
 refine Qk rfl rfl (Qe (.int .i64 x1) hT_0) <|Qk rfl rfl (Zq rfl rfl) <|Q2 2 rfl ?_
 refine Qf (Qa ?_)
 exact ⟨M,(decide (x1<6)),hF7,hS,rfl,hz⟩
 refine Q2 4 rfl ?_
 refine Qf (Qa ?_)
 exact ⟨M,false,hF7,hS,rfl,hz⟩
 rintro T4 w2 ⟨M3,c5,hx6,hS,hT4_2,hz⟩
 rw [nodeIs_j1] at hz
 cases hz
 exact Q4 (Yj rfl hT4_2 ⟨rfl,hS.kept⟩)
def nodeGood_j1 (y17:Int) (rec18:(Vector Bool 32)→Int→Option Bool) (d27:Vector Bool 32):Option Bool :=
 rec18 d27 (IntKind.wrap .i64 (y17+1))
def nodeGood_j2 (d16:Vector Bool 32) (y17:Int) (rec18:(Vector Bool 32)→Int→Option Bool) (x31:Int):Option Bool :=
 (inR x31 32).bind fun _ =>
 (idxV d16 x31).bind fun x40 =>
 (setV d16 x31 true).bind fun a42 =>
 (some a42).bind fun d44 =>
 nodeGood_j1 y17 rec18 d44
def nodeGood_j3 (d16:Vector Bool 32) (y17:Int) (rec18:(Vector Bool 32)→Int→Option Bool) (x31:Int) (c49:Bool):Option Bool :=
 (bif c49 then
 some false
 else
 nodeGood_j2 d16 y17 rec18 x31)
def nodeGood_j4 (y68:Int) (rec69:Int→Option Bool):Option Bool :=
 rec69 (IntKind.wrap .i64 (y68+1))
def nodeGood_j7 (y111:Int) (rec112:Int→Option Bool):Option Bool :=
 rec112 (IntKind.wrap .i64 (y111+1))
def nodeGood_j8 (y111:Int) (rec112:Int→Option Bool) (c127:Bool):Option Bool :=
 (bif c127 then
 some false
 else
 nodeGood_j7 y111 rec112)
def nodeGood_l3 (y68:Int) (rec69:Int→Option Bool) (d85:GEntry):Nat→Int→Option Bool
 | 0,_=>none
 | n+1,y111 =>
 (bif decide (y111<(d85.at_.length:Int)) then
 (idx d85.at_ y111).bind fun x123 =>
 (bif decide (x123<0) then
 nodeGood_j8 y111 (nodeGood_l3 y68 rec69 d85 n) true
 else
 (bif decide (x123≥(d85.ops.length:Int)) then
 nodeGood_j8 y111 (nodeGood_l3 y68 rec69 d85 n) true
 else
 (bif decide (y111>0) then
 (idx d85.at_ (IntKind.wrap .i64 (y111-1))).bind fun x138 =>
 nodeGood_j8 y111 (nodeGood_l3 y68 rec69 d85 n) (decide (x138≥x123))
 else
 nodeGood_j8 y111 (nodeGood_l3 y68 rec69 d85 n) false)))
 else
 nodeGood_j4 y68 rec69)
def nodeGood_j6 (fu:Nat) (y68:Int) (rec69:Int→Option Bool) (d85:GEntry):Option Bool :=
 nodeGood_l3 y68 rec69 d85 fu 0
def nodeGood_j9 (fu:Nat) (y68:Int) (rec69:Int→Option Bool) (d85:GEntry) (c143:Bool):Option Bool :=
 (bif c143 then
 some false
 else
 nodeGood_j6 fu y68 rec69 d85)
def nodeGood_j5 (fu:Nat) (y68:Int) (rec69:Int→Option Bool) (d85:GEntry):Option Bool :=
 (bif d85.state==0 then
 (bif decide ((IntKind.wrap .i64 ((IntKind.wrap .i64 ((IntKind.wrap .i64 ((IntKind.wrap .i64 ((d85.ops.length:Int)+(d85.first.length:Int)))+(d85.deps.length:Int)))+(d85.at_.length:Int)))+(d85.values.length:Int)))>0) then
 some false
 else
 nodeGood_j4 y68 rec69)
 else
 (some (goodOpsZ d85.ops)).bind fun r150 =>
 (bif !r150 then
 nodeGood_j9 fu y68 rec69 d85 true
 else
 (some (risingZ d85.first)).bind fun r155 =>
 (bif !r155 then
 nodeGood_j9 fu y68 rec69 d85 true
 else
 (some (risingZ d85.deps)).bind fun r160 =>
 (bif !r160 then
 nodeGood_j9 fu y68 rec69 d85 true
 else
 (some (hasZ d85.first y68)).bind fun r165 =>
 (bif r165 then
 nodeGood_j9 fu y68 rec69 d85 true
 else
 (some (hasZ d85.deps y68)).bind fun r170 =>
 (bif r170 then
 nodeGood_j9 fu y68 rec69 d85 true
 else
 (bif d85.state==1 then
 (bif decide ((d85.deps.length:Int)>0) then
 nodeGood_j9 fu y68 rec69 d85 true
 else
 (bif d85.state != 3 then
 (bif decide ((d85.at_.length:Int)>0) then
 nodeGood_j9 fu y68 rec69 d85 true
 else
 nodeGood_j9 fu y68 rec69 d85 ((d85.at_.length:Int) != (d85.values.length:Int)))
 else
 nodeGood_j9 fu y68 rec69 d85 ((d85.at_.length:Int) != (d85.values.length:Int))))
 else
 (bif d85.state != 3 then
 (bif decide ((d85.at_.length:Int)>0) then
 nodeGood_j9 fu y68 rec69 d85 true
 else
 nodeGood_j9 fu y68 rec69 d85 ((d85.at_.length:Int) != (d85.values.length:Int)))
 else
 nodeGood_j9 fu y68 rec69 d85 ((d85.at_.length:Int) != (d85.values.length:Int))))))))))
def nodeGood_j10 (fu:Nat) (y68:Int) (rec69:Int→Option Bool) (d85:GEntry) (c204:Bool):Option Bool :=
 (bif c204 then
 some false
 else
 nodeGood_j5 fu y68 rec69 d85)
def nodeGood_l2 (fu:Nat) (x1:GNode) (d16:Vector Bool 32):Nat→Int→Option Bool
 | 0,_=>none
 | n+1,y68 =>
 (bif decide (y68<32) then
 (idxV x1.entries y68).bind fun x79 =>
 (some x79).bind fun d85 =>
 (bif decide (d85.state<0) then
 nodeGood_j10 fu y68 (nodeGood_l2 fu x1 d16 n) d85 true
 else
 (bif decide (d85.state>3) then
 nodeGood_j10 fu y68 (nodeGood_l2 fu x1 d16 n) d85 true
 else
 (inR y68 32).bind fun _ =>
 (idxV d16 y68).bind fun x215 =>
 nodeGood_j10 fu y68 (nodeGood_l2 fu x1 d16 n) d85 (!((d85.state==3)==x215))))
 else
 some true)
def nodeGood_l1 (fu:Nat) (x1:GNode):Nat→(Vector Bool 32)→Int→Option Bool
 | 0,_,_=>none
 | n+1,d16,y17 =>
 (bif decide (y17<(x1.order.length:Int)) then
 (idx x1.order y17).bind fun x31 =>
 (bif decide (x31<0) then
 nodeGood_j3 d16 y17 (nodeGood_l1 fu x1 n) x31 true
 else
 (bif decide (x31≥32) then
 nodeGood_j3 d16 y17 (nodeGood_l1 fu x1 n) x31 true
 else
 (inR x31 32).bind fun _ =>
 (idxV d16 x31).bind fun x57 =>
 (bif x57 then
 nodeGood_j3 d16 y17 (nodeGood_l1 fu x1 n) x31 true
 else
 (inR x31 32).bind fun _ =>
 (idxV x1.entries x31).bind fun x62 =>
 nodeGood_j3 d16 y17 (nodeGood_l1 fu x1 n) x31 (x62.state != 3))))
 else
 nodeGood_l2 fu x1 d16 fu 0)
def nodeGoodD (fu:Nat) (x1:GNode):Option Bool :=
 (some (Zr.zd:Vector Bool 32)).bind fun d9 =>
 nodeGood_l1 fu x1 fu d9 0
set_option maxRecDepth 100000 in
set_option maxHeartbeats 4000000 in
theorem nodeGood_ok {M:Mm} {w:World} {cx1:List Value} {x1:GNode} {fu:Nat} {r:Bool} (hA:Agree M w) (hcx1:rep M cx1 x1) (hz:nodeGoodD fu x1=some r) :
    Calls Try.prog 37 #[.agg cx1.toArray] w (GivesV w (.bool r)):=by
 refine Zh Try.func37 rfl 178 rfl rfl (by kernel_rfl) fun T hT => ?_
 have hT_0:T 0 = .agg cx1.toArray:=hT 0
 clear hT
 have hE:=Qg w.heap.size noX M
 have hS:St w noX M [] w:=Zv hA
 rw [nodeGoodD] at hz
 refine Qh <|Qi ?_
 refine Qu (Yo (v := .agg cx1.toArray) (cs:=cx1) hT_0 rfl hS ?_)
 intro b3 w2 hb3 hS
 refine Qd (Qj (.bool false) rfl) ?_
 refine Qf (Qa ?_)
 refine Qh <|Qi ?_
 have z4:rep M (Zr.zc (Vector Bool 32)) (Zr.zd:Vector Bool 32):=Zr.zr
 refine Qd (Y_zarr tz58 Jm) ?_
 refine Qu (Zf tz58 hS ?_)
 intro b6 w5 hb6 hS
 have zb6:rep M (Zr.zc (Vector Bool 32)) (Zr.zd:Vector Bool 32):=Zr.zr
 obtain ⟨d9,hd8,hz⟩:=Qb hz
 refine Qu (Q8 0 32 hS rfl zb6 rfl rfl z4 rfl rfl (Lf (rr zb6) z4) hd8 ?_)
 intro cs8 w7 hb8 ha8 hs8 hS
 refine Qf (Qa ?_)
 refine Qh <|Qh <|Qi <|Qd (Qp K0 rfl) ?_
 obtain ⟨v10,ev10,hv10⟩:=(Vz (rr hcx1))
 refine Qd (Ql v10 Z2 rfl (hS.bvB 1 rfl) ev10) ?_
 obtain ⟨a11,c11,hv11,_⟩:=Q3 hv10
 refine Qd (Zk Qq (Vw hv11 rfl)) <|Qd (Qe (.int .i64 0) rfl) ?_
 refine Qf (Qa ?_)
 refine Qy ?_
 refine Zy (fun k19 T' w' => ∃ M13 cs15 d16 y17,Mm.ext w.heap.size noX M M13∧St w noX M13 [.box b6 cs15 58,.box b3 cx1 34] w'∧rep M13 cs15 d16∧T' 1 = .pointer (some ⟨b3,0,none⟩)∧T' 3 = .pointer (some ⟨b6,0,none⟩)∧T' 12=v10∧T' 13 = .int .i64 (x1.order.length:Int)∧T' 14 = .int .i64 y17∧nodeGood_l1 fu x1 k19 d16 y17=some r) fu ?_ ?_ ?_
 exact ⟨M,cs8,d9,(0:Int),(Qg _ _ _),hS,hb8,rfl,rfl,rfl,rfl,rfl,hz⟩
 rintro T' w' ⟨_,_,_,_,_,_,_,_,_,_,_,_,hz⟩
 rw [nodeGood_l1] at hz
 cases hz
 intro k19
 rintro T14 w12 ⟨M13,cs15,d16,y17,hx21,hS,hb15,hT14_1,hT14_3,hT14_12,hT14_13,hT14_14,hz⟩
 replace hcx1:=Rep.mono hx21.1 hcx1
 replace hv10:=Qw hx21.1 hv10
 have hF20:=hx21
 rw [nodeGood_l1] at hz
 obtain ⟨rec18,hrec18⟩ : ∃ f,f=nodeGood_l1 fu x1 k19:=⟨_,rfl⟩
 rw [← hrec18] at hz
 refine Qh <|Qi <|Qd (Zq hT14_14 hT14_13) ?_
 refine Qf (Qa ?_)
 refine Qh ?_
 refine Qr rfl (fun hc22 => ?_) (fun hc22 => ?_)
 replace hz:=Qn hz hc22
 refine Qv (Qa ?_)
 refine Qz (fun T' w' => ∃ M24 cs26 d27,Mm.ext w.heap.size noX M13 M24∧St w noX M24 [.box b6 cs26 58,.box b3 cx1 34] w'∧rep M24 cs26 d27∧T' 1 = .pointer (some ⟨b3,0,none⟩)∧T' 3 = .pointer (some ⟨b6,0,none⟩)∧T' 12=v10∧T' 13 = .int .i64 (x1.order.length:Int)∧T' 14 = .int .i64 y17∧nodeGood_j1 y17 rec18 d27=some r) ?_ ?_
 have hF29:=Qg w.heap.size noX M13
 refine Qy <|Qh <|Qi ?_
 obtain ⟨x31,hx30,hz⟩:=Qb hz
 obtain ⟨b30,o30,c30,p30,hv30,hi30,hj30,hM30,hr30⟩:=Yd hv10 hx30
 replace hr30:rep _ (sl p30 (o30+Int.toNat y17*1) 1) x31:=hr30
 refine Qd (Yq V6 hT14_12 hv30 hT14_14 hi30 hj30) <|Qd (Ql (.int .i64 x31) Z5 rfl (hS.bvM hM30) hr30) <|Qd (Qj (.int .i64 x31) rfl) ?_
 refine Qf (Qa ?_)
 refine Qz (fun T' w' => ∃ M33,Mm.ext w.heap.size noX M13 M33∧St w noX M33 [.box b6 cs15 58,.box b3 cx1 34] w'∧T' 1 = .pointer (some ⟨b3,0,none⟩)∧T' 3 = .pointer (some ⟨b6,0,none⟩)∧T' 5 = .int .i64 x31∧T' 12=v10∧T' 13 = .int .i64 (x1.order.length:Int)∧T' 14 = .int .i64 y17∧nodeGood_j2 d16 y17 rec18 x31=some r) ?_ ?_
 have hF45:=Qg w.heap.size noX M13
 refine Qz (fun T' w' => ∃ M47 c49,Mm.ext w.heap.size noX M13 M47∧St w noX M47 [.box b6 cs15 58,.box b3 cx1 34] w'∧T' 1 = .pointer (some ⟨b3,0,none⟩)∧T' 3 = .pointer (some ⟨b6,0,none⟩)∧T' 5 = .int .i64 x31∧T' 12=v10∧T' 13 = .int .i64 (x1.order.length:Int)∧T' 14 = .int .i64 y17∧T' 36 = .bool c49∧nodeGood_j3 d16 y17 rec18 x31 c49=some r) ?_ ?_
 have hF52:=Qg w.heap.size noX M13
 refine Qi <|Qd (Qe (.int .i64 x31) rfl) <|Qd (Zq rfl rfl) <|Qd (Qe (.bool (decide (x31<0))) rfl) ?_
 rcases ic hz with ⟨hc53,hz⟩ | ⟨hc53,hz⟩<;>rw [hc53]
 refine Q2 16 rfl ?_
 refine Qf (Qa ?_)
 exact ⟨M13,true,hF52,hS,hT14_1,hT14_3,rfl,hT14_12,hT14_13,hT14_14,rfl,hz⟩
 refine Qk rfl rfl (Qe (.int .i64 x31) rfl) <|Qk rfl rfl (Va rfl rfl) <|Q2 2 rfl ?_
 rcases ic hz with ⟨hc54,hz⟩ | ⟨hc54,hz⟩<;>rw [hc54]
 refine Q2 12 rfl ?_
 refine Qf (Qa ?_)
 exact ⟨M13,true,hF52,hS,hT14_1,hT14_3,rfl,hT14_12,hT14_13,hT14_14,rfl,hz⟩
 refine Qk rfl rfl (Qe (.int .i64 x31) rfl) ?_
 obtain ⟨u55,hx56,hz⟩:=Qb hz
 obtain ⟨hx56a,hx56b⟩:=Qt hx56
 refine Qk rfl rfl (Za Jm hT14_3 rfl hx56a hx56b) ?_
 obtain ⟨x57,hx58,hz⟩:=Qb hz
 refine Qk rfl rfl (Ql (.bool x57) Jk rfl (hS.bvB 0 rfl) (vp (k:=1) rfl rfl (rr hb15) hx58)) <|Q2 2 rfl ?_
 rcases ic hz with ⟨hc59,hz⟩ | ⟨hc59,hz⟩<;>rw [hc59]
 refine Q2 7 rfl ?_
 refine Qf (Qa ?_)
 exact ⟨M13,true,hF52,hS,hT14_1,hT14_3,rfl,hT14_12,hT14_13,hT14_14,rfl,hz⟩
 refine Qk rfl rfl (Qe (.int .i64 x31) rfl) <|Qk rfl rfl (Qp Kk hT14_1) ?_
 obtain ⟨u60,hx61,hz⟩:=Qb hz
 obtain ⟨hx61a,hx61b⟩:=Qt hx61
 refine Qk rfl rfl (Za ia31 rfl rfl hx61a hx61b) <|Qk rfl rfl (Qp Y9 rfl) ?_
 obtain ⟨x62,hx63,hz⟩:=Qb hz
 refine Qk rfl rfl (Ql (.int .i64 x62.state) Z5 rfl (hS.bvB 1 rfl) (Yf (vp (k:=6) rfl rfl (Q5 (rr hcx1)) hx63))) <|Qk rfl rfl (Yp rfl rfl) <|Qd (Ze (.bool (x62.state != 3)) rfl rfl) ?_
 refine Qf (Qa ?_)
 exact ⟨M13,(x62.state != 3),hF52,hS,hT14_1,hT14_3,rfl,hT14_12,hT14_13,hT14_14,rfl,hz⟩
 rintro T48 w46 ⟨M47,c49,hx50,hS,hT48_1,hT48_3,hT48_5,hT48_12,hT48_13,hT48_14,hT48_36,hz⟩
 replace hF45:=Qc hF45 hx50
 rw [nodeGood_j3] at hz
 refine Qr hT48_36 (fun hc51 => ?_) (fun hc51 => ?_)
 replace hz:=Qn hz hc51
 refine Qh <|Qi <|Qd (Qj (.bool false) rfl) ?_
 refine Qf (Qa ?_)
 cases hz
 exact Q4 (Qs (Zi (Qs (Qs (Zi (Qs (Yj rfl rfl ⟨rfl,(Qm (Qm hS)).kept⟩)))))))
 replace hz:=Qo hz hc51
 refine Qv (Qa ?_)
 exact ⟨M47,hF45,hS,hT48_1,hT48_3,hT48_5,hT48_12,hT48_13,hT48_14,hz⟩
 rintro T34 w32 ⟨M33,hx35,hS,hT34_1,hT34_3,hT34_5,hT34_12,hT34_13,hT34_14,hz⟩
 replace hb15:=Rep.mono hx35.1 hb15
 replace hF29:=Qc hF29 hx35
 rw [nodeGood_j2] at hz
 refine Qi <|Qd (Qe (.int .i64 x31) hT34_5) ?_
 obtain ⟨u36,hx37,hz⟩:=Qb hz
 obtain ⟨hx37a,hx37b⟩:=Qt hx37
 refine Qd (Za Jm hT34_3 rfl hx37a hx37b) ?_
 obtain ⟨x40,hx41,hz⟩:=Qb hz
 obtain ⟨a42,hx43,hz⟩:=Qb hz
 obtain ⟨d44,hd39,hz⟩:=Qb hz
 refine Qu (Q8 0 1 hS rfl hb15 rfl rfl (rb true:rep M33 _ _) rfl rfl (vu (k:=1) rfl rfl (rr hb15) (Lf (vp (k:=1) rfl rfl (rr hb15) hx41) (rb true:rep M33 _ _)) hx43) hd39 ?_)
 intro cs39 w38 hb39 ha39 hs39 hS
 refine Qf (Q7 ?_)
 refine (Qa ?_)
 exact ⟨M33,cs39,d44,hF29,hS,hb39,hT34_1,hT34_3,hT34_12,hT34_13,hT34_14,hz⟩
 rintro T25 w23 ⟨M24,cs26,d27,hx28,hS,hb26,hT25_1,hT25_3,hT25_12,hT25_13,hT25_14,hz⟩
 replace hF20:=Qc hF20 hx28
 rw [nodeGood_j1] at hz
 refine Qi <|Qd (Zz hT25_14 rfl) <|Qd (Qe (.int .i64 (IntKind.wrap .i64 (y17+1))) rfl) ?_
 refine Qf (Qa ?_)
 exact ⟨M24,cs26,d27,(IntKind.wrap .i64 (y17+1)),hF20,hS,hb26,hT25_1,hT25_3,hT25_12,hT25_13,rfl,(by rw [← hrec18];exact hz)⟩
 replace hz:=Qo hz hc22
 refine Zs <|Q0 <|Q0 <|Zt ?_
 refine (Qa ?_)
 refine Qh <|Qh <|Qi <|Qd (Qp Kk hT14_1) ?_
 have ha64:=(Q5 (rr hcx1))
 refine Qd (Zg ta31 rfl (hS.bvB 1 rfl) (Rep.len ha64)) <|Qd (Qe (.int .i64 0) rfl) ?_
 refine Qf (Qa ?_)
 refine Qy ?_
 refine Zy (fun k70 T' w' => ∃ M66 y68,Mm.ext w.heap.size noX M13 M66∧St w noX M66 [.box b6 cs15 58,.box b3 cx1 34] w'∧T' 3 = .pointer (some ⟨b6,0,none⟩)∧T' 41 = .agg (sl cx1 (0+0) 192).toArray∧T' 42 = .int .i64 y68∧nodeGood_l2 fu x1 d16 k70 y68=some r) fu ?_ ?_ ?_
 exact ⟨M13,(0:Int),(Qg _ _ _),hS,hT14_3,rfl,rfl,hz⟩
 rintro T' w' ⟨_,_,_,_,_,_,_,hz⟩
 rw [nodeGood_l2] at hz
 cases hz
 intro k70
 rintro T67 w65 ⟨M66,y68,hx72,hS,hT67_3,hT67_41,hT67_42,hz⟩
 replace hb15:=Rep.mono hx72.1 hb15
 replace ha64:=Rep.mono hx72.1 ha64
 have hF71:=hx72
 rw [nodeGood_l2] at hz
 obtain ⟨rec69,hrec69⟩ : ∃ f,f=nodeGood_l2 fu x1 d16 k70:=⟨_,rfl⟩
 rw [← hrec69] at hz
 refine Qh <|Qi <|Qd (Zq hT67_42 rfl) ?_
 refine Qf (Qa ?_)
 refine Qh ?_
 refine Qr rfl (fun hc73 => ?_) (fun hc73 => ?_)
 replace hz:=Qn hz hc73
 refine Qv (Qa ?_)
 refine Qz (fun T' w' => ∃ M75,Mm.ext w.heap.size noX M66 M75∧St w noX M75 [.box b6 cs15 58,.box b3 cx1 34] w'∧T' 3 = .pointer (some ⟨b6,0,none⟩)∧T' 41 = .agg (sl cx1 (0+0) 192).toArray∧T' 42 = .int .i64 y68∧nodeGood_j4 y68 rec69=some r) ?_ ?_
 have hF78:=Qg w.heap.size noX M66
 refine Qy <|Qh <|Qi <|Qd (Qe (.int .i64 y68) hT67_42) ?_
 obtain ⟨x79,hx80,hz⟩:=Qb hz
 obtain ⟨hx80a,hx80b,hx80⟩:=repV_at ha64 hx80
 replace hx80:rep _ (sl (sl cx1 (0+0) 192) (Int.toNat y68*6) 6) x79:=hx80
 refine Qd (Y_ixVn iv31 hT67_41 hT67_42 hx80a hx80b) ?_
 refine Qu (Zf tz30 hS ?_)
 intro b82 w81 hb82 hS
 have zb82:rep M66 (Zr.zc GEntry) (Zr.zd:GEntry):=Zr.zr
 refine Qd (Qj (.int .i64 y68) rfl) ?_
 obtain ⟨d85,hd84,hz⟩:=Qb hz
 refine Qu (Q8 0 6 hS rfl zb82 rfl rfl hx80 rfl rfl (Lf (rr zb82) hx80) hd84 ?_)
 intro cs84 w83 hb84 ha84 hs84 hS
 refine Qf (Qa ?_)
 refine Qz (fun T' w' => ∃ M87,Mm.ext w.heap.size noX M66 M87∧St w noX M87 [.box b82 cs84 30,.box b6 cs15 58,.box b3 cx1 34] w'∧T' 3 = .pointer (some ⟨b6,0,none⟩)∧T' 6 = .int .i64 y68∧T' 7 = .pointer (some ⟨b82,0,none⟩)∧T' 41 = .agg (sl cx1 (0+0) 192).toArray∧T' 42 = .int .i64 y68∧nodeGood_j5 fu y68 rec69 d85=some r) ?_ ?_
 have hF200:=Qg w.heap.size noX M66
 refine Qz (fun T' w' => ∃ M202 c204,Mm.ext w.heap.size noX M66 M202∧St w noX M202 [.box b82 cs84 30,.box b6 cs15 58,.box b3 cx1 34] w'∧T' 3 = .pointer (some ⟨b6,0,none⟩)∧T' 6 = .int .i64 y68∧T' 7 = .pointer (some ⟨b82,0,none⟩)∧T' 41 = .agg (sl cx1 (0+0) 192).toArray∧T' 42 = .int .i64 y68∧T' 62 = .bool c204∧nodeGood_j10 fu y68 rec69 d85 c204=some r) ?_ ?_
 have hF207:=Qg w.heap.size noX M66
 refine Yt [.box b82 cs84 30,.box b6 cs15 58] [] Z6 hS fun w208 hS hG209 hR210=>wy 0 rfl (Qp Y9 rfl) (fun _=>hR210) <|Y6 1 rfl (Ql (.int .i64 d85.state) Z5 rfl (Ym 0 rfl) (Yf (rr hb84))) hR210 <|wy 2 rfl (Zq rfl rfl) (fun _=>hR210) <|wy 3 rfl (Qe (.bool (decide (d85.state<0))) rfl) (fun _=>hR210) ?_
 rcases ic hz with ⟨hc211,hz⟩ | ⟨hc211,hz⟩<;>rw [hc211]
 refine Yg 4 (j:=3) rfl rfl rfl rfl (fun _=>hR210) <|Yg 5 (j:=3) rfl rfl rfl rfl (fun _=>hR210) <|Yg 6 (j:=3) rfl rfl rfl rfl (fun _=>hR210) <|wy 7 rfl (Zp (.bool true) rfl rfl) (fun _=>hR210) <|wy 8 rfl (Qe (.bool true) rfl) (fun _=>hR210) <|Yg 9 (j:=8) rfl rfl rfl rfl (fun _=>hR210) <|Yg 10 (j:=8) rfl rfl rfl rfl (fun _=>hR210) <|Yg 11 (j:=8) rfl rfl rfl rfl (fun _=>hR210) <|Yg 12 (j:=8) rfl rfl rfl rfl (fun _=>hR210) <|Yg 13 (j:=8) rfl rfl rfl rfl (fun _=>hR210) <|Yg 14 (j:=8) rfl rfl rfl rfl (fun _=>hR210) <|Yg 15 (j:=8) rfl rfl rfl rfl (fun _=>hR210) <|wy 16 rfl (Zp (.bool true) rfl rfl) (fun _=>hR210) ?_
 refine wd (Qa ?_)
 exact ⟨M66,true,hF207,hS,hT67_3,rfl,rfl,hT67_41,hT67_42,rfl,hz⟩
 refine Vq 4 rfl rfl rfl (Qp Y9 rfl) (fun _=>hR210) <|Kh 5 rfl rfl rfl (Ql (.int .i64 d85.state) Z5 rfl (Ym 0 rfl) (Yf (rr hb84))) hR210 <|Vq 6 rfl rfl rfl (Yu rfl rfl) (fun _=>hR210) <|wy 7 rfl (Ze (.bool (decide (d85.state>3))) rfl rfl) (fun _=>hR210) <|wy 8 rfl (Qe (.bool (decide (d85.state>3))) rfl) (fun _=>hR210) ?_
 rcases ic hz with ⟨hc212,hz⟩ | ⟨hc212,hz⟩<;>rw [hc212]
 refine Yg 9 (j:=8) rfl rfl rfl rfl (fun _=>hR210) <|Yg 10 (j:=8) rfl rfl rfl rfl (fun _=>hR210) <|Yg 11 (j:=8) rfl rfl rfl rfl (fun _=>hR210) <|Yg 12 (j:=8) rfl rfl rfl rfl (fun _=>hR210) <|Yg 13 (j:=8) rfl rfl rfl rfl (fun _=>hR210) <|Yg 14 (j:=8) rfl rfl rfl rfl (fun _=>hR210) <|Yg 15 (j:=8) rfl rfl rfl rfl (fun _=>hR210) <|wy 16 rfl (Zp (.bool true) rfl rfl) (fun _=>hR210) ?_
 refine wd (Qa ?_)
 exact ⟨M66,true,hF207,hS,hT67_3,rfl,rfl,hT67_41,hT67_42,rfl,hz⟩
 refine Vq 9 rfl rfl rfl (Qp Y9 rfl) (fun _=>hR210) <|Kh 10 rfl rfl rfl (Ql (.int .i64 d85.state) Z5 rfl (Ym 0 rfl) (Yf (rr hb84))) hR210 <|Vq 11 rfl rfl rfl (Yc rfl rfl) (fun _=>hR210) <|Vq 12 rfl rfl rfl (Qe (.int .i64 y68) rfl) (fun _=>hR210) ?_
 obtain ⟨u213,hx214,hz⟩:=Qb hz
 obtain ⟨hx214a,hx214b⟩:=Qt hx214
 refine Vq 13 rfl rfl rfl (Za Jm hT67_3 rfl hx214a hx214b) (fun _=>hR210) ?_
 obtain ⟨x215,hx216,hz⟩:=Qb hz
 refine Kh 14 rfl rfl rfl (Ql (.bool x215) Jk rfl (Ym 1 rfl) (vp (k:=1) rfl rfl (rr hb15) hx216)) hR210 <|Vq 15 rfl rfl rfl (Y_neB rfl rfl K3) (fun _=>hR210) <|wy 16 rfl (Ze (.bool (!((d85.state==3)==x215))) rfl rfl) (fun _=>hR210) ?_
 refine wd (Qa ?_)
 exact ⟨M66,(!((d85.state==3)==x215)),hF207,hS,hT67_3,rfl,rfl,hT67_41,hT67_42,rfl,hz⟩
 rintro T203 w201 ⟨M202,c204,hx205,hS,hT203_3,hT203_6,hT203_7,hT203_41,hT203_42,hT203_62,hz⟩
 replace hF200:=Qc hF200 hx205
 rw [nodeGood_j10] at hz
 refine Qr hT203_62 (fun hc206 => ?_) (fun hc206 => ?_)
 replace hz:=Qn hz hc206
 refine Qh <|Qi <|Qd (Qj (.bool false) rfl) ?_
 refine Qf (Qa ?_)
 cases hz
 exact Q4 (Qs (Zi (Qs (Qs (Zi (Qs (Yj rfl rfl ⟨rfl,(Qm (Qm (Qm hS))).kept⟩)))))))
 replace hz:=Qo hz hc206
 refine Qv (Qa ?_)
 exact ⟨M202,hF200,hS,hT203_3,hT203_6,hT203_7,hT203_41,hT203_42,hz⟩
 rintro T88 w86 ⟨M87,hx89,hS,hT88_3,hT88_6,hT88_7,hT88_41,hT88_42,hz⟩
 replace hb84:=Rep.mono hx89.1 hb84
 replace hF78:=Qc hF78 hx89
 rw [nodeGood_j5] at hz
 refine Qh <|Qh <|Qi <|Qd (Qp Y9 hT88_7) <|Qd (Ql (.int .i64 d85.state) Z5 rfl (hS.bvB 0 rfl) (Yf (rr hb84))) <|Qd (Yc rfl rfl) ?_
 refine Qf (Qa ?_)
 refine Qr rfl (fun hc90 => ?_) (fun hc90 => ?_)
 replace hz:=Qn hz hc90
 refine Qh <|Qh <|Qi <|Qd (Qp K8 hT88_7) ?_
 obtain ⟨v91,ev91,hv91⟩:=(Vt (rr hb84))
 refine Qd (Ql v91 Vn rfl (hS.bvB 0 rfl) ev91) ?_
 obtain ⟨a92,c92,hv92,_⟩:=Q3 hv91
 refine Qd (Zk Z7 (Vw hv92 rfl)) <|Qd (Qp fa30_2 hT88_7) ?_
 obtain ⟨v93,ev93,hv93⟩:=(Kd (rr hb84))
 refine Qd (Ql v93 Z2 rfl (hS.bvB 0 rfl) ev93) ?_
 obtain ⟨a94,c94,hv94,_⟩:=Q3 hv93
 refine Qd (Zk Qq (Vw hv94 rfl)) <|Qd (Zz rfl rfl) <|Qd (Qp Jn hT88_7) ?_
 obtain ⟨v95,ev95,hv95⟩:=(V2 (rr hb84))
 refine Qd (Ql v95 Z2 rfl (hS.bvB 0 rfl) ev95) ?_
 obtain ⟨a96,c96,hv96,_⟩:=Q3 hv95
 refine Qd (Zk Qq (Vw hv96 rfl)) <|Qd (Zz rfl rfl) <|Qd (Qp Vp hT88_7) ?_
 obtain ⟨v97,ev97,hv97⟩:=(Yh (rr hb84))
 refine Qd (Ql v97 Z2 rfl (hS.bvB 0 rfl) ev97) ?_
 obtain ⟨a98,c98,hv98,_⟩:=Q3 hv97
 refine Qd (Zk Qq (Vw hv98 rfl)) <|Qd (Zz rfl rfl) <|Qd (Qp V8 hT88_7) ?_
 obtain ⟨v99,ev99,hv99⟩:=(Yv (rr hb84))
 refine Qd (Ql v99 Z2 rfl (hS.bvB 0 rfl) ev99) ?_
 obtain ⟨a100,c100,hv100,_⟩:=Q3 hv99
 refine Qd (Zk Qq (Vw hv100 rfl)) <|Qd (Zz rfl rfl) <|Qd (Yu rfl rfl) ?_
 refine Qf (Qa ?_)
 refine Qr rfl (fun hc101 => ?_) (fun hc101 => ?_)
 replace hz:=Qn hz hc101
 refine Qh <|Qi <|Qd (Qj (.bool false) rfl) ?_
 refine Qf (Qa ?_)
 cases hz
 exact Q4 (Qs (Qs (Zi (Qs (Qs (Zi (Qs (Yj rfl rfl ⟨rfl,(Qm (Qm (Qm hS))).kept⟩))))))))
 replace hz:=Qo hz hc101
 refine Qv (Qa ?_)
 refine Zs <|Q0 <|Zt ?_
 refine (Qa ?_)
 exact ⟨M87,hF78,(Yk hS hb82),hT88_3,hT88_41,hT88_42,hz⟩
 replace hz:=Qo hz hc90
 refine Qv (Qa ?_)
 refine Qz (fun T' w' => ∃ M103,Mm.ext w.heap.size noX M87 M103∧St w noX M103 [.box b82 cs84 30,.box b6 cs15 58,.box b3 cx1 34] w'∧T' 3 = .pointer (some ⟨b6,0,none⟩)∧T' 7 = .pointer (some ⟨b82,0,none⟩)∧T' 41 = .agg (sl cx1 (0+0) 192).toArray∧T' 42 = .int .i64 y68∧nodeGood_j6 fu y68 rec69 d85=some r) ?_ ?_
 have hF139:=Qg w.heap.size noX M87
 refine Qz (fun T' w' => ∃ M141 c143,Mm.ext w.heap.size noX M87 M141∧St w noX M141 [.box b82 cs84 30,.box b6 cs15 58,.box b3 cx1 34] w'∧T' 3 = .pointer (some ⟨b6,0,none⟩)∧T' 7 = .pointer (some ⟨b82,0,none⟩)∧T' 41 = .agg (sl cx1 (0+0) 192).toArray∧T' 42 = .int .i64 y68∧T' 144 = .bool c143∧nodeGood_j9 fu y68 rec69 d85 c143=some r) ?_ ?_
 have hF146:=Qg w.heap.size noX M87
 refine Qi <|Qd (Qp K8 hT88_7) ?_
 obtain ⟨v147,ev147,hv147⟩:=(Vt (rr hb84))
 refine Qd (Ql v147 Vn rfl (hS.bvB 0 rfl) ev147) ?_
 obtain ⟨r150,hr149,hz⟩:=Qb hz
 replace hr149:=Option.some.inj hr149
 refine Qu (Z4 (vs:=[v147]) (v := .bool r150) cb60 (Zu rfl) hS (hr149 ▸ (c_goodOps hS.agree hv147)) ?_)
 intro w148 hS
 refine Qd (Ye rfl) <|Qd (Qe (.bool (!r150)) rfl) ?_
 rcases ic hz with ⟨hc151,hz⟩ | ⟨hc151,hz⟩<;>rw [hc151]
 refine Q2 54 rfl ?_
 refine Qf (Qa ?_)
 exact ⟨M87,true,hF146,hS,hT88_3,hT88_7,hT88_41,hT88_42,rfl,hz⟩
 refine Qk rfl rfl (Qp fa30_2 hT88_7) ?_
 obtain ⟨v152,ev152,hv152⟩:=(Kd (rr hb84))
 refine Qk rfl rfl (Ql v152 Z2 rfl (hS.bvB 0 rfl) ev152) ?_
 obtain ⟨r155,hr154,hz⟩:=Qb hz
 replace hr154:=Option.some.inj hr154
 refine Km rfl rfl (Z4 (vs:=[v152]) (v := .bool r155) cb61 (Zu rfl) hS (hr154 ▸ (Ku hS.agree hv152)) ?_)
 intro w153 hS
 refine Qk rfl rfl (Ye rfl) <|Q2 2 rfl ?_
 rcases ic hz with ⟨hc156,hz⟩ | ⟨hc156,hz⟩<;>rw [hc156]
 refine Q2 48 rfl ?_
 refine Qf (Qa ?_)
 exact ⟨M87,true,hF146,hS,hT88_3,hT88_7,hT88_41,hT88_42,rfl,hz⟩
 refine Qk rfl rfl (Qp Jn hT88_7) ?_
 obtain ⟨v157,ev157,hv157⟩:=(V2 (rr hb84))
 refine Qk rfl rfl (Ql v157 Z2 rfl (hS.bvB 0 rfl) ev157) ?_
 obtain ⟨r160,hr159,hz⟩:=Qb hz
 replace hr159:=Option.some.inj hr159
 refine Km rfl rfl (Z4 (vs:=[v157]) (v := .bool r160) cb61 (Zu rfl) hS (hr159 ▸ (Ku hS.agree hv157)) ?_)
 intro w158 hS
 refine Qk rfl rfl (Ye rfl) <|Q2 2 rfl ?_
 rcases ic hz with ⟨hc161,hz⟩ | ⟨hc161,hz⟩<;>rw [hc161]
 refine Q2 42 rfl ?_
 refine Qf (Qa ?_)
 exact ⟨M87,true,hF146,hS,hT88_3,hT88_7,hT88_41,hT88_42,rfl,hz⟩
 refine Qk rfl rfl (Qp fa30_2 hT88_7) ?_
 obtain ⟨v162,ev162,hv162⟩:=(Kd (rr hb84))
 refine Qk rfl rfl (Ql v162 Z2 rfl (hS.bvB 0 rfl) ev162) <|Qk rfl rfl (Qe (.int .i64 y68) hT88_6) ?_
 obtain ⟨r165,hr164,hz⟩:=Qb hz
 replace hr164:=Option.some.inj hr164
 refine Km rfl rfl (Z4 (vs:=[v162,.int .i64 y68]) (v := .bool r165) cb62 (Ya rfl rfl) hS (hr164 ▸ (Vr hS.agree hv162)) ?_)
 intro w163 hS
 refine Q2 2 rfl ?_
 rcases ic hz with ⟨hc166,hz⟩ | ⟨hc166,hz⟩<;>rw [hc166]
 refine Q2 36 rfl ?_
 refine Qf (Qa ?_)
 exact ⟨M87,true,hF146,hS,hT88_3,hT88_7,hT88_41,hT88_42,rfl,hz⟩
 refine Qk rfl rfl (Qp Jn hT88_7) ?_
 obtain ⟨v167,ev167,hv167⟩:=(V2 (rr hb84))
 refine Qk rfl rfl (Ql v167 Z2 rfl (hS.bvB 0 rfl) ev167) <|Qk rfl rfl (Qe (.int .i64 y68) hT88_6) ?_
 obtain ⟨r170,hr169,hz⟩:=Qb hz
 replace hr169:=Option.some.inj hr169
 refine Km rfl rfl (Z4 (vs:=[v167,.int .i64 y68]) (v := .bool r170) cb62 (Ya rfl rfl) hS (hr169 ▸ (Vr hS.agree hv167)) ?_)
 intro w168 hS
 refine Q2 2 rfl ?_
 rcases ic hz with ⟨hc171,hz⟩ | ⟨hc171,hz⟩<;>rw [hc171]
 refine Q2 30 rfl ?_
 refine Qf (Qa ?_)
 exact ⟨M87,true,hF146,hS,hT88_3,hT88_7,hT88_41,hT88_42,rfl,hz⟩
 refine Qk rfl rfl (Qp Y9 hT88_7) <|Qk rfl rfl (Ql (.int .i64 d85.state) Z5 rfl (hS.bvB 0 rfl) (Yf (rr hb84))) <|Qk rfl rfl (Yc rfl rfl) <|Qk rfl rfl (Qe (.bool (d85.state==1)) rfl) ?_
 rcases ic hz with ⟨hc172,hz⟩ | ⟨hc172,hz⟩<;>rw [hc172]
 refine Qk rfl rfl (Qp Jn hT88_7) ?_
 obtain ⟨v173,ev173,hv173⟩:=(V2 (rr hb84))
 refine Qk rfl rfl (Ql v173 Z2 rfl (hS.bvB 0 rfl) ev173) ?_
 obtain ⟨a174,c174,hv174,_⟩:=Q3 hv173
 refine Qk rfl rfl (Zk Qq (Vw hv174 rfl)) <|Qk rfl rfl (Yu rfl rfl) <|Q2 3 rfl ?_
 rcases ic hz with ⟨hc175,hz⟩ | ⟨hc175,hz⟩<;>rw [hc175]
 refine Q2 19 rfl ?_
 refine Qf (Qa ?_)
 exact ⟨M87,true,hF146,hS,hT88_3,hT88_7,hT88_41,hT88_42,rfl,hz⟩
 refine Qk rfl rfl (Qp Y9 hT88_7) <|Qk rfl rfl (Ql (.int .i64 d85.state) Z5 rfl (hS.bvB 0 rfl) (Yf (rr hb84))) <|Qk rfl rfl (Yp rfl rfl) <|Qk rfl rfl (Qe (.bool (d85.state != 3)) rfl) ?_
 rcases ic hz with ⟨hc176,hz⟩ | ⟨hc176,hz⟩<;>rw [hc176]
 refine Qk rfl rfl (Qp Vp hT88_7) ?_
 obtain ⟨v177,ev177,hv177⟩:=(Yh (rr hb84))
 refine Qk rfl rfl (Ql v177 Z2 rfl (hS.bvB 0 rfl) ev177) ?_
 obtain ⟨a178,c178,hv178,_⟩:=Q3 hv177
 refine Qk rfl rfl (Zk Qq (Vw hv178 rfl)) <|Qk rfl rfl (Yu rfl rfl) <|Q2 3 rfl ?_
 rcases ic hz with ⟨hc179,hz⟩ | ⟨hc179,hz⟩<;>rw [hc179]
 refine Q2 8 rfl ?_
 refine Qf (Qa ?_)
 exact ⟨M87,true,hF146,hS,hT88_3,hT88_7,hT88_41,hT88_42,rfl,hz⟩
 refine Qk rfl rfl (Qp Vp hT88_7) ?_
 obtain ⟨v180,ev180,hv180⟩:=(Yh (rr hb84))
 refine Qk rfl rfl (Ql v180 Z2 rfl (hS.bvB 0 rfl) ev180) ?_
 obtain ⟨a181,c181,hv181,_⟩:=Q3 hv180
 refine Qk rfl rfl (Zk Qq (Vw hv181 rfl)) <|Qk rfl rfl (Qp V8 hT88_7) ?_
 obtain ⟨v182,ev182,hv182⟩:=(Yv (rr hb84))
 refine Qk rfl rfl (Ql v182 Z2 rfl (hS.bvB 0 rfl) ev182) ?_
 obtain ⟨a183,c183,hv183,_⟩:=Q3 hv182
 refine Qk rfl rfl (Zk Qq (Vw hv183 rfl)) <|Qk rfl rfl (Yp rfl rfl) <|Qd (Ze (.bool ((d85.at_.length:Int) != (d85.values.length:Int))) rfl rfl) ?_
 refine Qf (Qa ?_)
 exact ⟨M87,((d85.at_.length:Int) != (d85.values.length:Int)),hF146,hS,hT88_3,hT88_7,hT88_41,hT88_42,rfl,hz⟩
 refine Q2 7 rfl <|Qk rfl rfl (Qp Vp hT88_7) ?_
 obtain ⟨v184,ev184,hv184⟩:=(Yh (rr hb84))
 refine Qk rfl rfl (Ql v184 Z2 rfl (hS.bvB 0 rfl) ev184) ?_
 obtain ⟨a185,c185,hv185,_⟩:=Q3 hv184
 refine Qk rfl rfl (Zk Qq (Vw hv185 rfl)) <|Qk rfl rfl (Qp V8 hT88_7) ?_
 obtain ⟨v186,ev186,hv186⟩:=(Yv (rr hb84))
 refine Qk rfl rfl (Ql v186 Z2 rfl (hS.bvB 0 rfl) ev186) ?_
 obtain ⟨a187,c187,hv187,_⟩:=Q3 hv186
 refine Qk rfl rfl (Zk Qq (Vw hv187 rfl)) <|Qk rfl rfl (Yp rfl rfl) <|Qd (Ze (.bool ((d85.at_.length:Int) != (d85.values.length:Int))) rfl rfl) ?_
 refine Qf (Qa ?_)
 exact ⟨M87,((d85.at_.length:Int) != (d85.values.length:Int)),hF146,hS,hT88_3,hT88_7,hT88_41,hT88_42,rfl,hz⟩
 refine Q2 7 rfl <|Qk rfl rfl (Qp Y9 hT88_7) <|Qk rfl rfl (Ql (.int .i64 d85.state) Z5 rfl (hS.bvB 0 rfl) (Yf (rr hb84))) <|Qk rfl rfl (Yp rfl rfl) <|Qk rfl rfl (Qe (.bool (d85.state != 3)) rfl) ?_
 rcases ic hz with ⟨hc188,hz⟩ | ⟨hc188,hz⟩<;>rw [hc188]
 refine Qk rfl rfl (Qp Vp hT88_7) ?_
 obtain ⟨v189,ev189,hv189⟩:=(Yh (rr hb84))
 refine Qk rfl rfl (Ql v189 Z2 rfl (hS.bvB 0 rfl) ev189) ?_
 obtain ⟨a190,c190,hv190,_⟩:=Q3 hv189
 refine Qk rfl rfl (Zk Qq (Vw hv190 rfl)) <|Qk rfl rfl (Yu rfl rfl) <|Q2 3 rfl ?_
 rcases ic hz with ⟨hc191,hz⟩ | ⟨hc191,hz⟩<;>rw [hc191]
 refine Q2 8 rfl ?_
 refine Qf (Qa ?_)
 exact ⟨M87,true,hF146,hS,hT88_3,hT88_7,hT88_41,hT88_42,rfl,hz⟩
 refine Qk rfl rfl (Qp Vp hT88_7) ?_
 obtain ⟨v192,ev192,hv192⟩:=(Yh (rr hb84))
 refine Qk rfl rfl (Ql v192 Z2 rfl (hS.bvB 0 rfl) ev192) ?_
 obtain ⟨a193,c193,hv193,_⟩:=Q3 hv192
 refine Qk rfl rfl (Zk Qq (Vw hv193 rfl)) <|Qk rfl rfl (Qp V8 hT88_7) ?_
 obtain ⟨v194,ev194,hv194⟩:=(Yv (rr hb84))
 refine Qk rfl rfl (Ql v194 Z2 rfl (hS.bvB 0 rfl) ev194) ?_
 obtain ⟨a195,c195,hv195,_⟩:=Q3 hv194
 refine Qk rfl rfl (Zk Qq (Vw hv195 rfl)) <|Qk rfl rfl (Yp rfl rfl) <|Qd (Ze (.bool ((d85.at_.length:Int) != (d85.values.length:Int))) rfl rfl) ?_
 refine Qf (Qa ?_)
 exact ⟨M87,((d85.at_.length:Int) != (d85.values.length:Int)),hF146,hS,hT88_3,hT88_7,hT88_41,hT88_42,rfl,hz⟩
 refine Q2 7 rfl <|Qk rfl rfl (Qp Vp hT88_7) ?_
 obtain ⟨v196,ev196,hv196⟩:=(Yh (rr hb84))
 refine Qk rfl rfl (Ql v196 Z2 rfl (hS.bvB 0 rfl) ev196) ?_
 obtain ⟨a197,c197,hv197,_⟩:=Q3 hv196
 refine Qk rfl rfl (Zk Qq (Vw hv197 rfl)) <|Qk rfl rfl (Qp V8 hT88_7) ?_
 obtain ⟨v198,ev198,hv198⟩:=(Yv (rr hb84))
 refine Qk rfl rfl (Ql v198 Z2 rfl (hS.bvB 0 rfl) ev198) ?_
 obtain ⟨a199,c199,hv199,_⟩:=Q3 hv198
 refine Qk rfl rfl (Zk Qq (Vw hv199 rfl)) <|Qk rfl rfl (Yp rfl rfl) <|Qd (Ze (.bool ((d85.at_.length:Int) != (d85.values.length:Int))) rfl rfl) ?_
 refine Qf (Qa ?_)
 exact ⟨M87,((d85.at_.length:Int) != (d85.values.length:Int)),hF146,hS,hT88_3,hT88_7,hT88_41,hT88_42,rfl,hz⟩
 rintro T142 w140 ⟨M141,c143,hx144,hS,hT142_3,hT142_7,hT142_41,hT142_42,hT142_144,hz⟩
 replace hF139:=Qc hF139 hx144
 rw [nodeGood_j9] at hz
 refine Qr hT142_144 (fun hc145 => ?_) (fun hc145 => ?_)
 replace hz:=Qn hz hc145
 refine Qh <|Qi <|Qd (Qj (.bool false) rfl) ?_
 refine Qf (Qa ?_)
 cases hz
 exact Q4 (Qs (Zi (Qs (Qs (Zi (Qs (Yj rfl rfl ⟨rfl,(Qm (Qm (Qm hS))).kept⟩)))))))
 replace hz:=Qo hz hc145
 refine Qv (Qa ?_)
 exact ⟨M141,hF139,hS,hT142_3,hT142_7,hT142_41,hT142_42,hz⟩
 rintro T104 w102 ⟨M103,hx105,hS,hT104_3,hT104_7,hT104_41,hT104_42,hz⟩
 replace hb84:=Rep.mono hx105.1 hb84
 replace hF78:=Qc hF78 hx105
 rw [nodeGood_j6] at hz
 refine Qh <|Qi <|Qd (Qp Vp hT104_7) ?_
 obtain ⟨v106,ev106,hv106⟩:=(Yh (rr hb84))
 refine Qd (Ql v106 Z2 rfl (hS.bvB 0 rfl) ev106) ?_
 obtain ⟨a107,c107,hv107,_⟩:=Q3 hv106
 refine Qd (Zk Qq (Vw hv107 rfl)) <|Qd (Qe (.int .i64 0) rfl) ?_
 refine Qf (Qa ?_)
 refine Qy ?_
 refine Zy (fun k113 T' w' => ∃ M109 y111,Mm.ext w.heap.size noX M103 M109∧St w noX M109 [.box b82 cs84 30,.box b6 cs15 58,.box b3 cx1 34] w'∧T' 3 = .pointer (some ⟨b6,0,none⟩)∧T' 7 = .pointer (some ⟨b82,0,none⟩)∧T' 41 = .agg (sl cx1 (0+0) 192).toArray∧T' 42 = .int .i64 y68∧T' 146=v106∧T' 147 = .int .i64 (d85.at_.length:Int)∧T' 148 = .int .i64 y111∧nodeGood_l3 y68 rec69 d85 k113 y111=some r) fu ?_ ?_ ?_
 exact ⟨M103,(0:Int),(Qg _ _ _),hS,hT104_3,hT104_7,hT104_41,hT104_42,rfl,rfl,rfl,hz⟩
 rintro T' w' ⟨_,_,_,_,_,_,_,_,_,_,_,hz⟩
 rw [nodeGood_l3] at hz
 cases hz
 intro k113
 rintro T110 w108 ⟨M109,y111,hx115,hS,hT110_3,hT110_7,hT110_41,hT110_42,hT110_146,hT110_147,hT110_148,hz⟩
 replace hb84:=Rep.mono hx115.1 hb84
 replace hv106:=Qw hx115.1 hv106
 replace hF78:=Qc hF78 hx115
 have hF114:=hx115
 rw [nodeGood_l3] at hz
 obtain ⟨rec112,hrec112⟩ : ∃ f,f=nodeGood_l3 y68 rec69 d85 k113:=⟨_,rfl⟩
 rw [← hrec112] at hz
 refine Qh <|Qi <|Qd (Zq hT110_148 hT110_147) ?_
 refine Qf (Qa ?_)
 refine Qh ?_
 refine Qr rfl (fun hc116 => ?_) (fun hc116 => ?_)
 replace hz:=Qn hz hc116
 refine Qv (Qa ?_)
 refine Qz (fun T' w' => ∃ M118,Mm.ext w.heap.size noX M109 M118∧St w noX M118 [.box b82 cs84 30,.box b6 cs15 58,.box b3 cx1 34] w'∧T' 3 = .pointer (some ⟨b6,0,none⟩)∧T' 7 = .pointer (some ⟨b82,0,none⟩)∧T' 41 = .agg (sl cx1 (0+0) 192).toArray∧T' 42 = .int .i64 y68∧T' 146=v106∧T' 147 = .int .i64 (d85.at_.length:Int)∧T' 148 = .int .i64 y111∧nodeGood_j7 y111 rec112=some r) ?_ ?_
 have hF121:=Qg w.heap.size noX M109
 refine Qy <|Qh <|Qi <|Qd (Qe (.int .i64 y111) hT110_148) ?_
 obtain ⟨x123,hx122,hz⟩:=Qb hz
 obtain ⟨b122,o122,c122,p122,hv122,hi122,hj122,hM122,hr122⟩:=Yd hv106 hx122
 replace hr122:rep _ (sl p122 (o122+Int.toNat y111*1) 1) x123:=hr122
 refine Qd (Yq V6 hT110_146 hv122 hT110_148 hi122 hj122) <|Qd (Ql (.int .i64 x123) Z5 rfl (hS.bvM hM122) hr122) <|Q2 2 rfl ?_
 refine Qf (Qa ?_)
 refine Qz (fun T' w' => ∃ M125 c127,Mm.ext w.heap.size noX M109 M125∧St w noX M125 [.box b82 cs84 30,.box b6 cs15 58,.box b3 cx1 34] w'∧T' 3 = .pointer (some ⟨b6,0,none⟩)∧T' 7 = .pointer (some ⟨b82,0,none⟩)∧T' 41 = .agg (sl cx1 (0+0) 192).toArray∧T' 42 = .int .i64 y68∧T' 146=v106∧T' 147 = .int .i64 (d85.at_.length:Int)∧T' 148 = .int .i64 y111∧T' 175 = .bool c127∧nodeGood_j8 y111 rec112 c127=some r) ?_ ?_
 have hF130:=Qg w.heap.size noX M109
 refine Qi <|Qd (Qe (.int .i64 x123) rfl) <|Qd (Zq rfl rfl) <|Qd (Qe (.bool (decide (x123<0))) rfl) ?_
 rcases ic hz with ⟨hc131,hz⟩ | ⟨hc131,hz⟩<;>rw [hc131]
 refine Q2 20 rfl ?_
 refine Qf (Qa ?_)
 exact ⟨M109,true,hF130,hS,hT110_3,hT110_7,hT110_41,hT110_42,hT110_146,hT110_147,hT110_148,rfl,hz⟩
 refine Qk rfl rfl (Qe (.int .i64 x123) rfl) <|Qk rfl rfl (Qp K8 hT110_7) ?_
 obtain ⟨v132,ev132,hv132⟩:=(Vt (rr hb84))
 refine Qk rfl rfl (Ql v132 Vn rfl (hS.bvB 0 rfl) ev132) ?_
 obtain ⟨a133,c133,hv133,_⟩:=Q3 hv132
 refine Qk rfl rfl (Zk Z7 (Vw hv133 rfl)) <|Qk rfl rfl (Va rfl rfl) <|Q2 2 rfl ?_
 rcases ic hz with ⟨hc134,hz⟩ | ⟨hc134,hz⟩<;>rw [hc134]
 refine Q2 13 rfl ?_
 refine Qf (Qa ?_)
 exact ⟨M109,true,hF130,hS,hT110_3,hT110_7,hT110_41,hT110_42,hT110_146,hT110_147,hT110_148,rfl,hz⟩
 refine Qk rfl rfl (Qe (.int .i64 y111) rfl) <|Qk rfl rfl (Yu rfl rfl) <|Qk rfl rfl (Qe (.bool (decide (y111>0))) rfl) ?_
 rcases ic hz with ⟨hc135,hz⟩ | ⟨hc135,hz⟩<;>rw [hc135]
 refine Qk rfl rfl (Qp Vp hT110_7) ?_
 obtain ⟨v136,ev136,hv136⟩:=(Yh (rr hb84))
 refine Qk rfl rfl (Ql v136 Z2 rfl (hS.bvB 0 rfl) ev136) <|Qk rfl rfl (Qe (.int .i64 y111) rfl) <|Qk rfl rfl (Kf rfl rfl) ?_
 obtain ⟨x138,hx137,hz⟩:=Qb hz
 obtain ⟨b137,o137,c137,p137,hv137,hi137,hj137,hM137,hr137⟩:=Yd hv136 hx137
 replace hr137:rep _ (sl p137 (o137+Int.toNat (IntKind.wrap .i64 (y111-1))*1) 1) x138:=hr137
 refine Qk rfl rfl (Yq V6 rfl hv137 rfl hi137 hj137) <|Qk rfl rfl (Ql (.int .i64 x138) Z5 rfl (hS.bvM hM137) hr137) <|Qk rfl rfl (Qe (.int .i64 x123) rfl) <|Qk rfl rfl (Va rfl rfl) <|Q2 2 rfl ?_
 refine Qf (Qa ?_)
 exact ⟨M109,(decide (x138≥x123)),hF130,hS,hT110_3,hT110_7,hT110_41,hT110_42,hT110_146,hT110_147,hT110_148,rfl,hz⟩
 refine Q2 10 rfl ?_
 refine Qf (Qa ?_)
 exact ⟨M109,false,hF130,hS,hT110_3,hT110_7,hT110_41,hT110_42,hT110_146,hT110_147,hT110_148,rfl,hz⟩
 rintro T126 w124 ⟨M125,c127,hx128,hS,hT126_3,hT126_7,hT126_41,hT126_42,hT126_146,hT126_147,hT126_148,hT126_175,hz⟩
 replace hF121:=Qc hF121 hx128
 rw [nodeGood_j8] at hz
 refine Qr hT126_175 (fun hc129 => ?_) (fun hc129 => ?_)
 replace hz:=Qn hz hc129
 refine Qh <|Qi <|Qd (Qj (.bool false) rfl) ?_
 refine Qf (Qa ?_)
 cases hz
 exact Q4 (Zi (Qs (Qs (Zi (Zi (Qs (Qs (Zi (Qs (Yj rfl rfl ⟨rfl,(Qm (Qm (Qm hS))).kept⟩))))))))))
 replace hz:=Qo hz hc129
 refine Qv (Q7 ?_)
 refine (Qa ?_)
 exact ⟨M125,hF121,hS,hT126_3,hT126_7,hT126_41,hT126_42,hT126_146,hT126_147,hT126_148,hz⟩
 rintro T119 w117 ⟨M118,hx120,hS,hT119_3,hT119_7,hT119_41,hT119_42,hT119_146,hT119_147,hT119_148,hz⟩
 replace hF114:=Qc hF114 hx120
 rw [nodeGood_j7] at hz
 refine Qi <|Qd (Zz hT119_148 rfl) <|Qd (Qe (.int .i64 (IntKind.wrap .i64 (y111+1))) rfl) ?_
 refine Qf (Qa ?_)
 exact ⟨M118,(IntKind.wrap .i64 (y111+1)),hF114,hS,hT119_3,hT119_7,hT119_41,hT119_42,hT119_146,hT119_147,rfl,(by rw [← hrec112];exact hz)⟩
 replace hz:=Qo hz hc116
 refine Zs <|Q0 <|Q0 <|Zt ?_
 refine (Q7 ?_)
 refine (Qa ?_)
 exact ⟨M109,hF78,(Yk hS hb82),hT110_3,hT110_41,hT110_42,hz⟩
 rintro T76 w74 ⟨M75,hx77,hS,hT76_3,hT76_41,hT76_42,hz⟩
 replace hF71:=Qc hF71 hx77
 rw [nodeGood_j4] at hz
 refine Qi <|Qd (Zz hT76_42 rfl) <|Qd (Qe (.int .i64 (IntKind.wrap .i64 (y68+1))) rfl) ?_
 refine Qf (Qa ?_)
 exact ⟨M75,(IntKind.wrap .i64 (y68+1)),hF71,hS,hT76_3,hT76_41,rfl,(by rw [← hrec69];exact hz)⟩
 replace hz:=Qo hz hc73
 refine Zs <|Q0 <|Q0 <|Zt ?_
 refine (Qa ?_)
 refine Qh <|Qi <|Qd (Qj (.bool true) rfl) ?_
 refine Qf (Qa ?_)
 cases hz
 exact Q4 (Yj rfl rfl ⟨rfl,(Qm (Qm hS)).kept⟩)
def nodeAhead_j1 (y14:Int) (rec15:(List Int)→Int→Option (List Int)) (l23:List Int):Option (List Int) :=
 rec15 l23 (IntKind.wrap .i64 (y14+1))
def nodeAhead_j2 (l12:List Int) (y14:Int) (rec15:(List Int)→Int→Option (List Int)) (c37:Bool):Option (List Int) :=
 (bif c37 then
 (app l12 ([y14]:List Int)).bind fun l44 =>
 nodeAhead_j1 y14 rec15 l44
 else
 nodeAhead_j1 y14 rec15 l12)
def nodeAhead_l1 (x1:GNode) (x2:Int) (x3:List GOp) (x4:Int):Nat→(List Int)→Int→Option (List Int)
 | 0,_,_=>none
 | n+1,l12,y14 =>
 (bif decide (y14<32) then
 (idxV x1.entries y14).bind fun x27 =>
 (some x27).bind fun d33 =>
 (bif y14 != x2 then
 (bif d33.state != 0 then
 (some (conflictZ d33.ops x3 x4)).bind fun r51 =>
 nodeAhead_j2 l12 y14 (nodeAhead_l1 x1 x2 x3 x4 n) r51
 else
 nodeAhead_j2 l12 y14 (nodeAhead_l1 x1 x2 x3 x4 n) false)
 else
 nodeAhead_j2 l12 y14 (nodeAhead_l1 x1 x2 x3 x4 n) false)
 else
 some l12)
def nodeAheadD (fu:Nat) (x1:GNode) (x2:Int) (x3:List GOp) (x4:Int):Option (List Int) :=
 nodeAhead_l1 x1 x2 x3 x4 fu ([]:List Int) 0
set_option maxRecDepth 100000 in
set_option maxHeartbeats 4000000 in
theorem nodeAhead_ok {M:Mm} {w:World} {cx1:List Value} {vx3:Value} {x1:GNode} {x2:Int} {x3:List GOp} {x4:Int} {fu:Nat} {r:(List Int)} (hA:Agree M w) (hcx1:rep M cx1 x1) (hvx3:repL M vx3 x3) (hz:nodeAheadD fu x1 x2 x3 x4=some r) :
    Calls Try.prog 88 #[.agg cx1.toArray,.int .i64 x2,vx3,.int .i64 x4] w (Gives M w (fun M' u=>repL M' u r)):=by
 refine Zh Try.func88 rfl 39 rfl rfl (by kernel_rfl) fun T hT => ?_
 have hT_0:T 0 = .agg cx1.toArray:=hT 0
 have hT_1:T 1 = .int .i64 x2:=hT 1
 have hT_2:T 2=vx3:=hT 2
 have hT_3:T 3 = .int .i64 x4:=hT 3
 clear hT
 have hE:=Qg w.heap.size noX M
 have hS:St w noX M [] w:=Zv hA
 rw [nodeAheadD] at hz
 refine Qh <|Qi ?_
 refine Qu (Yo (v := .agg cx1.toArray) (cs:=cx1) hT_0 rfl hS ?_)
 intro b6 w5 hb6 hS
 refine Qd (Qj ((.slice none 0 0)) rfl) ?_
 refine Qf (Qa ?_)
 refine Qh <|Qi <|Qd (Qj ((.slice none 0 0)) rfl) ?_
 refine Qf (Qa ?_)
 refine Qh <|Qh <|Qi <|Qd (Qp Kk rfl) ?_
 have ha7:=(Q5 (rr hcx1))
 refine Qd (Zg ta31 rfl (hS.bvB 0 rfl) (Rep.len ha7)) <|Qd (Qe (.int .i64 0) rfl) ?_
 refine Qf (Qa ?_)
 refine Qy ?_
 replace hS:=hS.nilRow 3 1
 refine Zy (fun k16 T' w' => ∃ M10 v13 l12 y14,Mm.ext w.heap.size noX M M10∧St w noX M10 [.row v13 3 1,.box b6 cx1 34] w'∧repL M10 v13 l12∧T' 1 = .int .i64 x2∧T' 2=vx3∧T' 3 = .int .i64 x4∧T' 9=v13∧T' 13 = .agg (sl cx1 (0+0) 192).toArray∧T' 14 = .int .i64 y14∧nodeAhead_l1 x1 x2 x3 x4 k16 l12 y14=some r) fu ?_ ?_ ?_
 exact ⟨M,(.slice none 0 0),([]:List Int),(0:Int),(Qg _ _ _),hS,(Z3 _),hT_1,hT_2,hT_3,rfl,rfl,rfl,hz⟩
 rintro T' w' ⟨_,_,_,_,_,_,_,_,_,_,_,_,_,hz⟩
 rw [nodeAhead_l1] at hz
 cases hz
 intro k16
 rintro T11 w9 ⟨M10,v13,l12,y14,hx18,hS,hv13,hT11_1,hT11_2,hT11_3,hT11_9,hT11_13,hT11_14,hz⟩
 replace hvx3:=Qw hx18.1 hvx3
 replace ha7:=Rep.mono hx18.1 ha7
 replace hE:=Qc hE hx18
 have hF17:=hx18
 rw [nodeAhead_l1] at hz
 obtain ⟨rec15,hrec15⟩ : ∃ f,f=nodeAhead_l1 x1 x2 x3 x4 k16:=⟨_,rfl⟩
 rw [← hrec15] at hz
 refine Qh <|Qi <|Qd (Zq hT11_14 rfl) ?_
 refine Qf (Qa ?_)
 refine Qh ?_
 refine Qr rfl (fun hc19 => ?_) (fun hc19 => ?_)
 replace hz:=Qn hz hc19
 refine Qv (Qa ?_)
 refine Qz (fun T' w' => ∃ M21 v24 l23,Mm.ext w.heap.size noX M10 M21∧St w noX M21 [.row v24 3 1,.box b6 cx1 34] w'∧repL M21 v24 l23∧T' 1 = .int .i64 x2∧T' 2=vx3∧T' 3 = .int .i64 x4∧T' 9=v24∧T' 13 = .agg (sl cx1 (0+0) 192).toArray∧T' 14 = .int .i64 y14∧nodeAhead_j1 y14 rec15 l23=some r) ?_ ?_
 have hF26:=Qg w.heap.size noX M10
 refine Qy <|Qh <|Qi <|Qd (Qe (.int .i64 y14) hT11_14) ?_
 obtain ⟨x27,hx28,hz⟩:=Qb hz
 obtain ⟨hx28a,hx28b,hx28⟩:=repV_at ha7 hx28
 replace hx28:rep _ (sl (sl cx1 (0+0) 192) (Int.toNat y14*6) 6) x27:=hx28
 refine Qd (Y_ixVn iv31 hT11_13 hT11_14 hx28a hx28b) ?_
 refine Qu (Zf tz30 hS ?_)
 intro b30 w29 hb30 hS
 have zb30:rep M10 (Zr.zc GEntry) (Zr.zd:GEntry):=Zr.zr
 refine Qd (Qj (.int .i64 y14) rfl) ?_
 obtain ⟨d33,hd32,hz⟩:=Qb hz
 refine Qu (Q8 0 6 hS rfl zb30 rfl rfl hx28 rfl rfl (Lf (rr zb30) hx28) hd32 ?_)
 intro cs32 w31 hb32 ha32 hs32 hS
 refine Qf (Qa ?_)
 refine Qz (fun T' w' => ∃ M35 c37,Mm.ext w.heap.size noX M10 M35∧St w noX M35 [.box b30 cs32 30,.row v13 3 1,.box b6 cx1 34] w'∧T' 1 = .int .i64 x2∧T' 2=vx3∧T' 3 = .int .i64 x4∧T' 9=v13∧T' 10 = .int .i64 y14∧T' 13 = .agg (sl cx1 (0+0) 192).toArray∧T' 14 = .int .i64 y14∧T' 32 = .bool c37∧nodeAhead_j2 l12 y14 rec15 c37=some r) ?_ ?_
 have hF45:=Qg w.heap.size noX M10
 refine Qi <|Qd (Qe (.int .i64 y14) rfl) <|Qd (Qe (.int .i64 x2) hT11_1) <|Qd (Yp rfl rfl) <|Qd (Qe (.bool (y14 != x2)) rfl) ?_
 rcases ic hz with ⟨hc46,hz⟩ | ⟨hc46,hz⟩<;>rw [hc46]
 refine Qk rfl rfl (Qp Y9 rfl) <|Qk rfl rfl (Ql (.int .i64 d33.state) Z5 rfl (hS.bvB 0 rfl) (Yf (rr hb32))) <|Qk rfl rfl (Yp rfl rfl) <|Q2 2 rfl ?_
 rcases ic hz with ⟨hc47,hz⟩ | ⟨hc47,hz⟩<;>rw [hc47]
 refine Qk rfl rfl (Qp K8 rfl) ?_
 obtain ⟨v48,ev48,hv48⟩:=(Vt (rr hb32))
 refine Qk rfl rfl (Ql v48 Vn rfl (hS.bvB 0 rfl) ev48) <|Qk rfl rfl (Qe (vx3) hT11_2) <|Qk rfl rfl (Qe (.int .i64 x4) hT11_3) ?_
 obtain ⟨r51,hr50,hz⟩:=Qb hz
 replace hr50:=Option.some.inj hr50
 refine Km rfl rfl (Z4 (vs:=[v48,vx3,.int .i64 x4]) (v := .bool r51) cb54 (Jj rfl rfl rfl) hS (hr50 ▸ (c_conflict hS.agree hv48 hvx3)) ?_)
 intro w49 hS
 refine Qd (Zp (.bool r51) rfl rfl) ?_
 refine Qf (Qa ?_)
 exact ⟨M10,r51,hF45,hS,hT11_1,hT11_2,hT11_3,hT11_9,rfl,hT11_13,hT11_14,rfl,hz⟩
 refine Q2 6 rfl ?_
 refine Qf (Qa ?_)
 exact ⟨M10,false,hF45,hS,hT11_1,hT11_2,hT11_3,hT11_9,rfl,hT11_13,hT11_14,rfl,hz⟩
 refine Q2 11 rfl ?_
 refine Qf (Qa ?_)
 exact ⟨M10,false,hF45,hS,hT11_1,hT11_2,hT11_3,hT11_9,rfl,hT11_13,hT11_14,rfl,hz⟩
 rintro T36 w34 ⟨M35,c37,hx38,hS,hT36_1,hT36_2,hT36_3,hT36_9,hT36_10,hT36_13,hT36_14,hT36_32,hz⟩
 replace hv13:=Qw hx38.1 hv13
 replace hF26:=Qc hF26 hx38
 rw [nodeAhead_j2] at hz
 refine Qr hT36_32 (fun hc39 => ?_) (fun hc39 => ?_)
 replace hz:=Qn hz hc39
 refine Qi <|Qd (Qe (v13) hT36_9) <|Qd (Qe (.int .i64 y14) hT36_10) ?_
 refine Qu (Z0 (α := Int) (l:=([y14]:List Int)) [.int .i64 y14] tl28 (Ys rfl Vf) rfl rfl (by decide) (by decide) (by decide) hS (K5 (ri y14:rep M35 _ _) Ji) ?_)
 intro v41 M41 w40 hx41 hv41 hS
 replace hv13:=Qw hx41.1 hv13
 obtain ⟨l44,hr43,hz⟩:=Qb hz
 obtain ⟨hy43,hs43⟩:=Z1 hr43
 refine Qu (Y3 (α := Int) (j:=1) Jh hS rfl rfl rfl hv13 hv41 hy43 ?_)
 intro v43 M43 w42 hx43 hv43 hS
 rw [← hs43] at hv43
 clear hr43 hs43
 replace hF26:=Qc hF26 (hx41.trans hx43)
 refine Qd (Qj (v43) rfl) ?_
 refine Qf (Q7 ?_)
 refine (Qa ?_)
 exact ⟨M43,v43,l44,hF26,(Yk hS hb30),hv43,hT36_1,hT36_2,hT36_3,rfl,hT36_13,hT36_14,hz⟩
 replace hz:=Qo hz hc39
 refine Qv (Q7 ?_)
 refine (Qa ?_)
 exact ⟨M35,v13,l12,hF26,(Yk hS hb30),hv13,hT36_1,hT36_2,hT36_3,hT36_9,hT36_13,hT36_14,hz⟩
 rintro T22 w20 ⟨M21,v24,l23,hx25,hS,hv24,hT22_1,hT22_2,hT22_3,hT22_9,hT22_13,hT22_14,hz⟩
 replace hF17:=Qc hF17 hx25
 rw [nodeAhead_j1] at hz
 refine Qi <|Qd (Zz hT22_14 rfl) <|Qd (Qe (.int .i64 (IntKind.wrap .i64 (y14+1))) rfl) ?_
 refine Qf (Qa ?_)
 exact ⟨M21,v24,l23,(IntKind.wrap .i64 (y14+1)),hF17,hS,hv24,hT22_1,hT22_2,hT22_3,hT22_9,hT22_13,rfl,(by rw [← hrec15];exact hz)⟩
 replace hz:=Qo hz hc19
 refine Zs <|Q0 <|Q0 <|Zt ?_
 refine (Qa ?_)
 refine Qh <|Qi <|Qd (Qe (v13) hT11_9) <|Qd (Qj (v13) rfl) ?_
 refine Qf (Qa ?_)
 cases hz
 exact Q4 (Yj rfl rfl (Zj (Qm (Qm hS)) hE hv13))
def nodeGraph_l1 (x1:GNode):Nat→GGraph→Int→Option GGraph
 | 0,_,_=>none
 | n+1,d13,y14 =>
 (bif decide (y14<32) then
 (idxV x1.entries y14).bind fun x20 =>
 (some x20).bind fun d26 =>
 (inR y14 32).bind fun _ =>
 (idxV d13.known y14).bind fun x35 =>
 (setV d13.known y14 (decide (d26.state≥2))).bind fun a37 =>
 (some ({ d13 with known:=a37 }:GGraph)).bind fun d39 =>
 (inR y14 32).bind fun _ =>
 (idxV d39.deps y14).bind fun x45 =>
 (setV d39.deps y14 d26.deps).bind fun a47 =>
 (some ({ d39 with deps:=a47 }:GGraph)).bind fun d49 =>
 (nodeGraph_l1 x1 n) d49 (IntKind.wrap .i64 (y14+1))
 else
 (some d13).bind fun d54 =>
 some d54)
def nodeGraphD (fu:Nat) (x1:GNode):Option GGraph :=
 nodeGraph_l1 x1 fu (Zr.zd:GGraph) 0
set_option maxRecDepth 100000 in
set_option maxHeartbeats 4000000 in
theorem nodeGraph_ok {M:Mm} {w:World} {cx1:List Value} {x1:GNode} {fu:Nat} {r:GGraph} (hA:Agree M w) (hcx1:rep M cx1 x1) (hz:nodeGraphD fu x1=some r) :
    Calls Try.prog 90 #[.agg cx1.toArray] w (Gives M w (fun M' u => ∃ cs,u = .agg cs.toArray∧rep M' cs r)):=by
 refine Zh Try.func90 rfl 25 rfl rfl (by kernel_rfl) fun T hT => ?_
 have hT_0:T 0 = .agg cx1.toArray:=hT 0
 clear hT
 have hE:=Qg w.heap.size noX M
 have hS:St w noX M [] w:=Zv hA
 rw [nodeGraphD] at hz
 refine Qh <|Qi ?_
 refine Qu (Yo (v := .agg cx1.toArray) (cs:=cx1) hT_0 rfl hS ?_)
 intro b3 w2 hb3 hS
 refine Qu (Zf tz61 hS ?_)
 intro b5 w4 hb5 hS
 have zb5:rep M (Zr.zc GGraph) (Zr.zd:GGraph):=Zr.zr
 refine Qf (Qa ?_)
 refine Qh <|Qi ?_
 refine Qu (Zf tz61 hS ?_)
 intro b7 w6 hb7 hS
 have zb7:rep M (Zr.zc GGraph) (Zr.zd:GGraph):=Zr.zr
 refine Qf (Qa ?_)
 refine Qh <|Qh <|Qi <|Qd (Qp Kk rfl) ?_
 have ha8:=(Q5 (rr hcx1))
 refine Qd (Zg ta31 rfl (hS.bvB 2 rfl) (Rep.len ha8)) <|Qd (Qe (.int .i64 0) rfl) ?_
 refine Qf (Qa ?_)
 refine Qy ?_
 refine Zy (fun k16 T' w' => ∃ M10 cs12 d13 y14,Mm.ext w.heap.size noX M M10∧St w noX M10 [.box b7 cs12 61,.box b5 (Zr.zc GGraph) 61,.box b3 cx1 34] w'∧rep M10 cs12 d13∧T' 2 = .pointer (some ⟨b5,0,none⟩)∧T' 3 = .pointer (some ⟨b7,0,none⟩)∧T' 7 = .agg (sl cx1 (0+0) 192).toArray∧T' 8 = .int .i64 y14∧nodeGraph_l1 x1 k16 d13 y14=some r) fu ?_ ?_ ?_
 exact ⟨M,(Zr.zc GGraph),(Zr.zd:GGraph),(0:Int),(Qg _ _ _),hS,zb7,rfl,rfl,rfl,rfl,hz⟩
 rintro T' w' ⟨_,_,_,_,_,_,_,_,_,_,_,hz⟩
 rw [nodeGraph_l1] at hz
 cases hz
 intro k16
 rintro T11 w9 ⟨M10,cs12,d13,y14,hx18,hS,hb12,hT11_2,hT11_3,hT11_7,hT11_8,hz⟩
 replace zb5:=Rep.mono hx18.1 zb5
 replace ha8:=Rep.mono hx18.1 ha8
 replace hE:=Qc hE hx18
 have hF17:=hx18
 rw [nodeGraph_l1] at hz
 obtain ⟨rec15,hrec15⟩ : ∃ f,f=nodeGraph_l1 x1 k16:=⟨_,rfl⟩
 rw [← hrec15] at hz
 refine Qh <|Qi <|Qd (Zq hT11_8 rfl) ?_
 refine Qf (Qa ?_)
 refine Qh ?_
 refine Qr rfl (fun hc19 => ?_) (fun hc19 => ?_)
 replace hz:=Qn hz hc19
 refine Qv (Qa ?_)
 refine Qh <|Qy <|Qh <|Qi <|Qd (Qe (.int .i64 y14) hT11_8) ?_
 obtain ⟨x20,hx21,hz⟩:=Qb hz
 obtain ⟨hx21a,hx21b,hx21⟩:=repV_at ha8 hx21
 replace hx21:rep _ (sl (sl cx1 (0+0) 192) (Int.toNat y14*6) 6) x20:=hx21
 refine Qd (Y_ixVn iv31 hT11_7 hT11_8 hx21a hx21b) ?_
 refine Qu (Zf tz30 hS ?_)
 intro b23 w22 hb23 hS
 have zb23:rep M10 (Zr.zc GEntry) (Zr.zd:GEntry):=Zr.zr
 refine Qd (Qj (.int .i64 y14) rfl) ?_
 obtain ⟨d26,hd25,hz⟩:=Qb hz
 refine Qu (Q8 0 6 hS rfl zb23 rfl rfl hx21 rfl rfl (Lf (rr zb23) hx21) hd25 ?_)
 intro cs25 w24 hb25 ha25 hs25 hS
 refine Qf (Qa ?_)
 refine Yt [.box b23 cs25 30] [] Z6 hS fun w27 hS hG28 hR29=>wy 0 rfl (Qe (.int .i64 y14) rfl) (fun _=>hR29) <|wy 1 rfl (Qe (.int .i64 y14) rfl) (fun _=>hR29) <|wy 2 rfl (Qp Y9 rfl) (fun _=>hR29) <|Y6 3 rfl (Ql (.int .i64 d26.state) Z5 rfl (Ym 0 rfl) (Yf (rr hb25))) hR29 <|wy 4 rfl (Va rfl rfl) (fun _=>hR29) <|wy 5 rfl (Qp Jn rfl) (fun _=>hR29) ?_
 obtain ⟨v30,ev30,hv30⟩:=(V2 (rr hb25))
 refine Y6 6 rfl (Ql v30 Z2 rfl (Ym 0 rfl) ev30) hR29 <|wy 7 rfl (Qp fa61_0 hT11_3) (fun _=>hR29) ?_
 obtain ⟨u31,hx32,hz⟩:=Qb hz
 obtain ⟨hx32a,hx32b⟩:=Qt hx32
 refine wy 8 rfl (Za Jm rfl rfl hx32a hx32b) (fun _=>hR29) <|wy 10 rfl (Qp fa61_1 hT11_3) (fun _=>hR29) ?_
 obtain ⟨x35,hx36,hz⟩:=Qb hz
 obtain ⟨a37,hx38,hz⟩:=Qb hz
 obtain ⟨d39,hd34,hz⟩:=Qb hz
 refine w1 9 rfl (Q8 1 1 hS rfl hb12 rfl rfl (rb (decide (d26.state≥2)):rep M10 _ _) rfl rfl (GGraph.u0 (rr hb12) (vu (k:=1) rfl rfl (GGraph.p0 (rr hb12)) (Lf (vp (k:=1) rfl rfl (GGraph.p0 (rr hb12)) hx36) (rb (decide (d26.state≥2)):rep M10 _ _)) hx38)) hd34 ?_)
 intro cs34 w33 hb34 ha34 hs34 hS
 refine Yr hS hG28 fun hR40 => ?_
 obtain ⟨u41,hx42,hz⟩:=Qb hz
 obtain ⟨hx42a,hx42b⟩:=Qt hx42
 refine wy 11 rfl (Za ia59 rfl rfl hx42a hx42b) (fun _=>hR40) ?_
 obtain ⟨x45,hx46,hz⟩:=Qb hz
 obtain ⟨a47,hx48,hz⟩:=Qb hz
 obtain ⟨d49,hd44,hz⟩:=Qb hz
 refine w1 12 rfl (Q8 1 1 hS rfl hb34 rfl rfl (Q1 hv30) (Q9 hv30) rfl (GGraph.u1 (rr hb34) (vu (k:=1) rfl rfl (Jc (rr hb34)) (Lf (vp (k:=1) rfl rfl (Jc (rr hb34)) hx46) (Q1 hv30)) hx48)) hd44 ?_)
 intro cs44 w43 hb44 ha44 hs44 hS
 refine Yr hS hG28 fun hR50 => ?_
 refine wd (Q7 ?_)
 refine (Qa ?_)
 refine Qi <|Qd (Zz hT11_8 rfl) <|Qd (Qe (.int .i64 (IntKind.wrap .i64 (y14+1))) rfl) ?_
 refine Qf (Qa ?_)
 exact ⟨M10,cs44,d49,(IntKind.wrap .i64 (y14+1)),hF17,(Yk hS hb23),hb44,hT11_2,hT11_3,hT11_7,rfl,(by rw [← hrec15];exact hz)⟩
 replace hz:=Qo hz hc19
 refine Zs <|Q0 <|Q0 <|Zt ?_
 refine (Qa ?_)
 refine Qh <|Qi ?_
 have ha51:=(rr hb12)
 refine Qd (Zg ta61 hT11_3 (hS.bvB 0 rfl) (Rep.len ha51)) ?_
 obtain ⟨d54,hd53,hz⟩:=Qb hz
 refine Qu (Q8 1 64 hS rfl zb5 hT11_2 rfl ha51 rfl rfl (Lf (rr zb5) ha51) hd53 ?_)
 intro cs53 w52 hb53 ha53 hs53 hS
 refine Qf (Qa ?_)
 cases hz
 exact Q4 (Jp (j:=1) rfl hT11_2 (by rw [Rep.len hb53];exact ta61) hS rfl (Zj (Qm (Qm (Qm hS))) hE ⟨_,rfl,hb53⟩))
def nodeOne_j1 (y58:Int) (rec59:GNode→Int→Option GNode) (d68:GNode):Option GNode :=
 rec59 d68 (IntKind.wrap .i64 (y58+1))
def nodeOne_j2 (y58:Int) (rec59:GNode→Int→Option GNode) (d118:GNode):Option GNode :=
 nodeOne_j1 y58 rec59 d118
def nodeOne_l1 (x3:Int) (x4:Int) (x43:GEntry):Nat→GNode→Int→Option GNode
 | 0,_,_=>none
 | n+1,d51,y58 =>
 (bif decide (y58<(x43.ops.length:Int)) then
 (idx x43.ops y58).bind fun x78 =>
 (some x78).bind fun d84 =>
 (some (shardZ d84.key)).bind fun r87 =>
 (bif r87==x4 then
 (inR d84.key 8).bind fun _ =>
 (idxV d51.values d84.key).bind fun x94 =>
 (some (doZ x94 d84)).bind fun r99 =>
 (inR d84.key 8).bind fun _ =>
 (idxV d51.values d84.key).bind fun x105 =>
 (setV d51.values d84.key r99).bind fun a107 =>
 (some ({ d51 with values:=a107 }:GNode)).bind fun d109 =>
 (idxV d109.entries x3).bind fun x129 =>
 (idxV d109.entries x3).bind fun x132 =>
 (inR d84.key 8).bind fun _ =>
 (idxV d109.values d84.key).bind fun x137 =>
 (app x129.at_ ([y58]:List Int)).bind fun l143 =>
 (app x132.values ([x137]:List Int)).bind fun l148 =>
 (idxV d109.entries x3).bind fun x151 =>
 (setV d109.entries x3 ({ x151 with at_:=l143 })).bind fun a153 =>
 (some ({ d109 with entries:=a153 }:GNode)).bind fun d155 =>
 (idxV d155.entries x3).bind fun x162 =>
 (setV d155.entries x3 ({ x162 with values:=l148 })).bind fun a164 =>
 (some ({ d155 with entries:=a164 }:GNode)).bind fun d166 =>
 nodeOne_j2 y58 (nodeOne_l1 x3 x4 x43 n) d166
 else
 nodeOne_j1 y58 (nodeOne_l1 x3 x4 x43 n) d51)
 else
 (app d51.order ([x3]:List Int)).bind fun l187 =>
 (some ({ d51 with order:=l187 }:GNode)).bind fun d190 =>
 (some d190).bind fun d198 =>
 some d198)
def nodeOneD (fu:Nat) (x1:GNode) (x3:Int) (x4:Int):Option GNode :=
 (inR x3 32).bind fun _ =>
 (idxV x1.entries x3).bind fun x13 =>
 (setV x1.entries x3 ({ x13 with state:=3 })).bind fun a15 =>
 (some ({ x1 with entries:=a15 }:GNode)).bind fun d17 =>
 (idxV d17.entries x3).bind fun x23 =>
 (setV d17.entries x3 ({ x23 with at_:=[] })).bind fun a25 =>
 (some ({ d17 with entries:=a25 }:GNode)).bind fun d27 =>
 (idxV d27.entries x3).bind fun x34 =>
 (setV d27.entries x3 ({ x34 with values:=[] })).bind fun a36 =>
 (some ({ d27 with entries:=a36 }:GNode)).bind fun d38 =>
 (idxV d38.entries x3).bind fun x43 =>
 nodeOne_l1 x3 x4 x43 fu d38 0
set_option maxRecDepth 100000 in
set_option maxHeartbeats 4000000 in
theorem nodeOne_ok {M:Mm} {w:World} {cx1:List Value} {ux1_1:Value} {x1:GNode} {x3:Int} {x4:Int} {fu:Nat} {r:GNode} (hS:St w (lentX [.row ux1_1 3 1]) M [.row ux1_1 3 1] w) (hcx1:rep M cx1 x1) (hpx1_1:sl cx1 192 1=[ux1_1]) (hz:nodeOneD fu x1 x3 x4=some r) :
    Calls Try.prog 91 #[.agg cx1.toArray,.int .i64 x3,.int .i64 x4] w (GivesL M w [.row ux1_1 3 1] (fun M' u L' => ∃ c0 u0,u = .agg c0.toArray∧L'=[.row u0 3 1]∧rep M' c0 r∧sl c0 192 1=[u0])):=by
 refine Zh Try.func91 rfl 80 rfl rfl (by kernel_rfl) fun T hT => ?_
 have hT_0:T 0 = .agg cx1.toArray:=hT 0
 have hT_1:T 1 = .int .i64 x3:=hT 1
 have hT_2:T 2 = .int .i64 x4:=hT 2
 clear hT
 have hE:=Qg w.heap.size (lentX [.row ux1_1 3 1]) M
 rw [nodeOneD] at hz
 refine Qh <|Qi ?_
 refine Qu (Yo (v := .agg cx1.toArray) (cs:=cx1) hT_0 rfl hS ?_)
 intro b6 w5 hb6 hS
 refine Qu (Zf tz34 hS ?_)
 intro b8 w7 hb8 hS
 have zb8:rep M (Zr.zc GNode) (Zr.zd:GNode):=Zr.zr
 refine Qf (Qa ?_)
 refine Qh <|Qi <|Qd (Qe (.int .i64 x3) hT_1) <|Qd (Qp Kk rfl) ?_
 obtain ⟨u9,hx10,hz⟩:=Qb hz
 obtain ⟨hx10a,hx10b⟩:=Qt hx10
 refine Qd (Za ia31 rfl rfl hx10a hx10b) <|Qd (Qj (.pointer (some ⟨b6,0+0+Int.toNat x3*6,none⟩)) rfl) ?_
 refine Qf (Qa ?_)
 refine Qh <|Qi <|Qd (Qe (.pointer (some ⟨b6,0+0+Int.toNat x3*6,none⟩)) rfl) <|Qd (Q6 rfl) <|Qd (Qp Y9 rfl) ?_
 obtain ⟨x13,hx14,hz⟩:=Qb hz
 obtain ⟨a15,hx16,hz⟩:=Qb hz
 obtain ⟨d17,hd12,hz⟩:=Qb hz
 have hq19:=(Zn hx14)
 refine Qu (Q8 1 1 hS rfl hcx1 rfl rfl (ri 3:rep M _ _) rfl rfl (Yy (rr hcx1) (vu (k:=6) rfl rfl (Q5 (rr hcx1)) (GEntry.u0 (vp (k:=6) rfl rfl (Q5 (rr hcx1)) hx14) (Lf (Yf (vp (k:=6) rfl rfl (Q5 (rr hcx1)) hx14)) (ri 3:rep M _ _))) hx16)) hd12 ?_)
 intro cs12 w11 hb12 ha12 hs12 hS
 have hp18:=(ha12 (by omega)).trans hpx1_1
 refine Qf (Qa ?_)
 refine Qh <|Qi <|Q2 2 rfl <|Qd (Q6 rfl) <|Qd (Qp Vp rfl) ?_
 replace hS:=hS.nilRow 3 1
 obtain ⟨x23,hx24,hz⟩:=Qb hz
 obtain ⟨a25,hx26,hz⟩:=Qb hz
 obtain ⟨d27,hd22,hz⟩:=Qb hz
 have hq29:=(Zn hx24)
 refine Qu (Q8 2 1 hS rfl hb12 rfl rfl (show rep M [Value.slice none 0 0] ([]:List Int) from Q1 (Z3 _)) rfl rfl (Yy (rr hb12) (vu (k:=6) rfl rfl (Q5 (rr hb12)) (Jf (vp (k:=6) rfl rfl (Q5 (rr hb12)) hx24) (Lf (Yh (vp (k:=6) rfl rfl (Q5 (rr hb12)) hx24)) (show rep M [Value.slice none 0 0] ([]:List Int) from Q1 (Z3 _)))) hx26)) hd22 ?_)
 intro cs22 w20 hb22 ha22 hs22 hS
 have hp28:=(ha22 (by omega)).trans hp18
 have hp30:=hs22
 refine Qd (Q6 rfl) <|Qd (Qp V8 rfl) ?_
 replace hS:=hS.nilRow 3 1
 obtain ⟨x34,hx35,hz⟩:=Qb hz
 obtain ⟨a36,hx37,hz⟩:=Qb hz
 obtain ⟨d38,hd33,hz⟩:=Qb hz
 have hq41:=(Zn hx35)
 refine Qu (Q8 3 1 hS rfl hb22 rfl rfl (show rep M [Value.slice none 0 0] ([]:List Int) from Q1 (Z3 _)) rfl rfl (Yy (rr hb22) (vu (k:=6) rfl rfl (Q5 (rr hb22)) (Jg (vp (k:=6) rfl rfl (Q5 (rr hb22)) hx35) (Lf (Yv (vp (k:=6) rfl rfl (Q5 (rr hb22)) hx35)) (show rep M [Value.slice none 0 0] ([]:List Int) from Q1 (Z3 _)))) hx37)) hd33 ?_)
 intro cs33 w31 hb33 ha33 hs33 hS
 have hp39:=(ha33 (by omega)).trans hp28
 have hp40:=(ha33 (by omega)).trans hp30
 have hp42:=hs33
 refine Qf (Qa ?_)
 refine Qh <|Qh <|Qi <|Qd (Qe (.pointer (some ⟨b6,0+0+Int.toNat x3*6,none⟩)) rfl) <|Qd (Q6 rfl) <|Qd (Qp K8 rfl) ?_
 obtain ⟨x43,hx44,hz⟩:=Qb hz
 obtain ⟨v45,ev45,hv45⟩:=(Vt (vp (k:=6) rfl rfl (Q5 (rr hb33)) hx44))
 refine Qd (Ql v45 Vn rfl (hS.bvB 3 rfl) ev45) ?_
 obtain ⟨a46,c46,hv46,_⟩:=Q3 hv45
 refine Qd (Zk Z7 (Vw hv46 rfl)) <|Qd (Qe (.int .i64 0) rfl) ?_
 refine Qf (Qa ?_)
 refine Qy ?_
 refine Zy (fun k60 T' w' => ∃ M48 cs50 d51 v52 v54 v56 y58,Mm.ext w.heap.size (lentX [.row ux1_1 3 1]) M M48∧St w (lentX [.row ux1_1 3 1]) M48 [.row v56 3 1,.row v54 3 1,.box b8 (Zr.zc GNode) 34,.box b6 cs50 34,.row v52 3 1] w'∧rep M48 cs50 d51∧sl cs50 (192) 1=[v52]∧sl cs50 (0+0+Int.toNat x3*6+4) 1=[v54]∧sl cs50 (0+0+Int.toNat x3*6+5) 1=[v56]∧T' 1 = .int .i64 x3∧T' 2 = .int .i64 x4∧T' 3 = .pointer (some ⟨b6,0,none⟩)∧T' 6 = .pointer (some ⟨b8,0,none⟩)∧T' 7 = .pointer (some ⟨b6,0+0+Int.toNat x3*6,none⟩)∧T' 25=v45∧T' 26 = .int .i64 (x43.ops.length:Int)∧T' 27 = .int .i64 y58∧nodeOne_l1 x3 x4 x43 k60 d51 y58=some r) fu ?_ ?_ ?_
 exact ⟨M,cs33,d38,ux1_1,(.slice none 0 0),(.slice none 0 0),(0:Int),(Qg _ _ _),hS,hb33,hp39,hp40,hp42,hT_1,hT_2,rfl,rfl,rfl,rfl,rfl,rfl,hz⟩
 rintro T' w' ⟨_,_,_,_,_,_,_,_,_,_,_,_,_,_,_,_,_,_,_,_,_,hz⟩
 rw [nodeOne_l1] at hz
 cases hz
 intro k60
 rintro T49 w47 ⟨M48,cs50,d51,v52,v54,v56,y58,hx62,hS,hb50,hp53,hp55,hp57,hT49_1,hT49_2,hT49_3,hT49_6,hT49_7,hT49_25,hT49_26,hT49_27,hz⟩
 replace zb8:=Rep.mono hx62.1 zb8
 replace hv45:=Qw hx62.1 hv45
 replace hE:=Qc hE hx62
 have hF61:=hx62
 rw [nodeOne_l1] at hz
 obtain ⟨rec59,hrec59⟩ : ∃ f,f=nodeOne_l1 x3 x4 x43 k60:=⟨_,rfl⟩
 rw [← hrec59] at hz
 refine Qh <|Qi <|Qd (Zq hT49_27 hT49_26) ?_
 refine Qf (Qa ?_)
 refine Qh ?_
 refine Qr rfl (fun hc63 => ?_) (fun hc63 => ?_)
 replace hz:=Qn hz hc63
 refine Qv (Qa ?_)
 refine Qz (fun T' w' => ∃ M65 cs67 d68 v69 v71 v73,Mm.ext w.heap.size (lentX [.row ux1_1 3 1]) M48 M65∧St w (lentX [.row ux1_1 3 1]) M65 [.row v73 3 1,.row v71 3 1,.box b8 (Zr.zc GNode) 34,.box b6 cs67 34,.row v69 3 1] w'∧rep M65 cs67 d68∧sl cs67 (192) 1=[v69]∧sl cs67 (0+0+Int.toNat x3*6+4) 1=[v71]∧sl cs67 (0+0+Int.toNat x3*6+5) 1=[v73]∧T' 1 = .int .i64 x3∧T' 2 = .int .i64 x4∧T' 3 = .pointer (some ⟨b6,0,none⟩)∧T' 6 = .pointer (some ⟨b8,0,none⟩)∧T' 7 = .pointer (some ⟨b6,0+0+Int.toNat x3*6,none⟩)∧T' 25=v45∧T' 26 = .int .i64 (x43.ops.length:Int)∧T' 27 = .int .i64 y58∧nodeOne_j1 y58 rec59 d68=some r) ?_ ?_
 have hF76:=Qg w.heap.size (lentX [.row ux1_1 3 1]) M48
 refine Qy <|Qh <|Qi <|Qd (Qe (.int .i64 y58) hT49_27) ?_
 obtain ⟨x78,hx77,hz⟩:=Qb hz
 obtain ⟨b77,o77,c77,p77,hv77,hi77,hj77,hM77,hr77⟩:=Yd hv45 hx77
 replace hr77:rep _ (sl p77 (o77+Int.toNat y58*3) 3) x78:=hr77
 refine Qd (Yq il27 hT49_25 hv77 hT49_27 hi77 hj77) ?_
 have ha79:=hr77
 refine Qd (Zg ta65 rfl (hS.bvM hM77) (Rep.len ha79)) ?_
 refine Qu (Zf tz65 hS ?_)
 intro b81 w80 hb81 hS
 have zb81:rep M48 (Zr.zc GOp) (Zr.zd:GOp):=Zr.zr
 refine Qd (Qj (.int .i64 y58) rfl) ?_
 obtain ⟨d84,hd83,hz⟩:=Qb hz
 refine Qu (Q8 0 3 hS rfl zb81 rfl rfl ha79 rfl rfl (Lf (rr zb81) ha79) hd83 ?_)
 intro cs83 w82 hb83 ha83 hs83 hS
 refine Qf (Qa ?_)
 refine Qh <|Qi <|Qd (Qp fa65_1 rfl) <|Qd (Ql (.int .i64 d84.key) Z5 rfl (hS.bvB 0 rfl) (GOp.p1 (rr hb83))) ?_
 obtain ⟨r87,hr86,hz⟩:=Qb hz
 replace hr86:=Option.some.inj hr86
 refine Qu (Z4 (vs:=[.int .i64 d84.key]) (v := .int .i64 r87) cb75 (Zu rfl) hS (hr86 ▸ (c_shard)) ?_)
 intro w85 hS
 refine Qd (Qe (.int .i64 x4) hT49_2) <|Qd (Yc rfl rfl) ?_
 refine Qf (Qa ?_)
 refine Qr rfl (fun hc88 => ?_) (fun hc88 => ?_)
 replace hz:=Qn hz hc88
 refine Qh <|Yt [.box b81 cs83 65,.box b6 cs50 34] [11] Z6 hS fun w89 hS hG90 hR91=>wy 0 rfl (Qp fa65_1 rfl) (fun _=>hR91) <|Y6 1 rfl (Ql (.int .i64 d84.key) Z5 rfl (Ym 0 rfl) (GOp.p1 (rr hb83))) hR91 <|wy 2 rfl (Qp fa65_1 rfl) (fun _=>hR91) <|Y6 3 rfl (Ql (.int .i64 d84.key) Z5 rfl (Ym 0 rfl) (GOp.p1 (rr hb83))) hR91 <|wy 4 rfl (Qp fa34_2 hT49_3) (fun _=>hR91) ?_
 obtain ⟨u92,hx93,hz⟩:=Qb hz
 obtain ⟨hx93a,hx93b⟩:=Qt hx93
 refine wy 5 rfl (Za ia32 rfl rfl hx93a hx93b) (fun _=>hR91) ?_
 obtain ⟨x94,hx95,hz⟩:=Qb hz
 refine Y6 6 rfl (Ql (.int .i64 x94) Z5 rfl (Ym 1 rfl) (vp (k:=1) rfl rfl (GNode.p2 (rr hb50)) hx95)) hR91 ?_
 have ha96:=(rr hb83)
 refine Y6 7 rfl (Zg ta65 rfl (Ym 0 rfl) (Rep.len ha96)) hR91 <|wy 9 rfl (Qp fa34_2 hT49_3) (fun _=>hR91) ?_
 obtain ⟨r99,hr98,hz⟩:=Qb hz
 replace hr98:=Option.some.inj hr98
 refine w1 8 rfl (Z4 (vs:=[.int .i64 x94,.agg (sl cs83 (0) 3).toArray]) (v := .int .i64 r99) cb27 (Ya rfl rfl) hS (hr98 ▸ (c_do hS.agree ha96)) ?_)
 intro w97 hS
 refine Yr hS hG90 fun hR100 => ?_
 obtain ⟨u101,hx102,hz⟩:=Qb hz
 obtain ⟨hx102a,hx102b⟩:=Qt hx102
 refine wy 10 rfl (Za ia32 rfl rfl hx102a hx102b) (fun _=>hR100) ?_
 obtain ⟨x105,hx106,hz⟩:=Qb hz
 obtain ⟨a107,hx108,hz⟩:=Qb hz
 obtain ⟨d109,hd104,hz⟩:=Qb hz
 have hq113:=(Zn hx106)
 refine w1 11 rfl (Q8 4 1 hS rfl hb50 rfl rfl (ri r99:rep M48 _ _) rfl rfl (GNode.u2 (rr hb50) (vu (k:=1) rfl rfl (GNode.p2 (rr hb50)) (Lf (vp (k:=1) rfl rfl (GNode.p2 (rr hb50)) hx106) (ri r99:rep M48 _ _)) hx108)) hd104 ?_)
 intro cs104 w103 hb104 ha104 hs104 hS
 have hp110:=(ha104 (by omega)).trans hp53
 have hp111:=(ha104 (by omega)).trans hp55
 have hp112:=(ha104 (by omega)).trans hp57
 refine ⟨nB,?_⟩
 refine wd (Qa ?_)
 refine W_J (fun T' w' => ∃ M115 cs117 d118 v120 v122,Mm.ext w.heap.size (lentX [.row ux1_1 3 1]) M48 M115∧St w (lentX [.row ux1_1 3 1]) M115 [.box b81 cs83 65,.row v122 3 1,.row v120 3 1,.box b8 (Zr.zc GNode) 34,.box b6 cs117 34,.row v52 3 1] w'∧rep M115 cs117 d118∧sl cs117 (192) 1=[v52]∧sl cs117 (0+0+Int.toNat x3*6+4) 1=[v120]∧sl cs117 (0+0+Int.toNat x3*6+5) 1=[v122]∧T' 1 = .int .i64 x3∧T' 2 = .int .i64 x4∧T' 3 = .pointer (some ⟨b6,0,none⟩)∧T' 6 = .pointer (some ⟨b8,0,none⟩)∧T' 7 = .pointer (some ⟨b6,0+0+Int.toNat x3*6,none⟩)∧T' 25=v45∧T' 26 = .int .i64 (x43.ops.length:Int)∧T' 27 = .int .i64 y58∧nodeOne_j2 y58 rec59 d118=some r) ?_ ?_
 have hF125:=Qg w.heap.size (lentX [.row ux1_1 3 1]) M48
 refine Yt [.box b81 cs83 65,.box b6 cs104 34] [22,25] Z6 hS fun w126 hS hG127 hR128=>wy 0 rfl (Qe (.pointer (some ⟨b6,0+0+Int.toNat x3*6,none⟩)) hT49_7) (fun _=>hR128) <|wy 1 rfl (Qe (.pointer (some ⟨b6,0+0+Int.toNat x3*6,none⟩)) hT49_7) (fun _=>hR128) <|wy 2 rfl (Qe (.pointer (some ⟨b6,0+0+Int.toNat x3*6,none⟩)) hT49_7) (fun _=>hR128) <|wy 3 rfl (Q6 rfl) (fun _=>hR128) <|wy 4 rfl (Qp Vp rfl) (fun _=>hR128) ?_
 obtain ⟨x129,hx130,hz⟩:=Qb hz
 obtain ⟨v131,ev131,hv131⟩:=(Yh (vp (k:=6) rfl rfl (Q5 (rr hb104)) hx130))
 rw [Vu ev131 hp111] at hv131
 refine Y6 5 rfl (Ql v54 Z2 rfl (Ym 1 rfl) hp111) hR128 <|wy 6 rfl (Qe (.int .i64 y58) rfl) (fun _=>hR128) <|wy 9 rfl (Qe (.pointer (some ⟨b6,0+0+Int.toNat x3*6,none⟩)) hT49_7) (fun _=>hR128) <|wy 10 rfl (Q6 rfl) (fun _=>hR128) <|wy 11 rfl (Qp V8 rfl) (fun _=>hR128) ?_
 obtain ⟨x132,hx133,hz⟩:=Qb hz
 obtain ⟨v134,ev134,hv134⟩:=(Yv (vp (k:=6) rfl rfl (Q5 (rr hb104)) hx133))
 rw [Vu ev134 hp112] at hv134
 refine Y6 12 rfl (Ql v56 Z2 rfl (Ym 1 rfl) hp112) hR128 <|wy 13 rfl (Qp fa65_1 rfl) (fun _=>hR128) <|wlC (inL [16,17,18,22,25]) 14 rfl (Ql (.int .i64 d84.key) Z5 rfl (Ym 0 rfl) (GOp.p1 (rr hb83))) hR128 <|wy 15 rfl (Qp fa34_2 hT49_3) (fun _=>hR128) ?_
 obtain ⟨u135,hx136,hz⟩:=Qb hz
 obtain ⟨hx136a,hx136b⟩:=Qt hx136
 refine wy 16 rfl (Za ia32 rfl rfl hx136a hx136b) (fun _=>hR128) ?_
 obtain ⟨x137,hx138,hz⟩:=Qb hz
 refine Y6 17 rfl (Ql (.int .i64 x137) Z5 rfl (Ym 1 rfl) (vp (k:=1) rfl rfl (GNode.p2 (rr hb104)) hx138)) hR128 ?_
 obtain ⟨l143,hr142,hz⟩:=Qb hz
 obtain ⟨l148,hr147,hz⟩:=Qb hz
 obtain ⟨x151,hx152,hz⟩:=Qb hz
 obtain ⟨a153,hx154,hz⟩:=Qb hz
 obtain ⟨d155,hd150,hz⟩:=Qb hz
 obtain ⟨x162,hx163,hz⟩:=Qb hz
 obtain ⟨a164,hx165,hz⟩:=Qb hz
 obtain ⟨d166,hd161,hz⟩:=Qb hz
 refine WB_two (i:=7) (j:=18) (by kernel_rfl) rfl rfl (Z0 (α := Int) (l:=([y58]:List Int)) [.int .i64 y58] tl28 (Ys rfl Vf) rfl rfl (by decide) (by decide) (by decide) hS (K5 (ri y58:rep M48 _ _) Ji) ?_) (Z0 (α := Int) (l:=([x137]:List Int)) [.int .i64 x137] tl28 (Ys rfl Vf) rfl rfl (by decide) (by decide) (by decide) hS (K5 (ri x137:rep M48 _ _) Ji) ?_)
 intro v140 M140 w139 hx140 hv140 hS
 replace hb104:=Rep.mono hx140.1 hb104
 replace hv131:=Qw hx140.1 hv131
 replace hv134:=Qw hx140.1 hv134
 replace hF125:=Qc hF125 hx140
 replace hG127:=Qc hG127 hx140
 refine Yr hS hG127 fun hR171 => ?_
 obtain ⟨hy142,hs142⟩:=Z1 hr142
 refine WB_two (i:=8) (j:=18) (by kernel_rfl) rfl rfl (Y3 (α := Int) (j:=2) Jh hS rfl rfl rfl hv131 hv140 hy142 ?_) (Z0 (α := Int) (l:=([x137]:List Int)) [.int .i64 x137] tl28 (Ys rfl Vf) rfl rfl (by decide) (by decide) (by decide) hS (K5 (ri x137:rep M140 _ _) Ji) ?_)
 intro v142 M142 w141 hx142 hv142 hS
 rw [← hs142] at hv142
 clear hr142 hs142
 replace hG127:=Qc hG127 hx142
 refine Yr hS hG127 fun hR172 => ?_
 refine w1 18 rfl (Z0 (α := Int) (l:=([x137]:List Int)) [.int .i64 x137] tl28 (Ys rfl Vf) rfl rfl (by decide) (by decide) (by decide) hS (K5 (ri x137:rep M142 _ _) Ji) ?_)
 intro v145 M145 w144 hx145 hv145 hS
 replace hv134:=Qw (hx142.1.trans hx145.1) hv134
 replace hG127:=Qc hG127 hx145
 refine Yr hS hG127 fun hR173 => ?_
 obtain ⟨hy147,hs147⟩:=Z1 hr147
 refine w1 19 rfl (Y3 (α := Int) (j:=1) Jh hS rfl rfl rfl hv134 hv145 hy147 ?_)
 intro v147 M147 w146 hx147 hv147 hS
 rw [← hs147] at hv147
 clear hr147 hs147
 replace hb104:=Rep.mono (hx142.1.trans (hx145.1.trans hx147.1)) hb104
 replace hv142:=Qw (hx145.1.trans hx147.1) hv142
 replace hF125:=Qc hF125 (hx142.trans (hx145.trans hx147))
 replace hG127:=Qc hG127 hx147
 refine Yr hS hG127 fun hR174=>wy 20 rfl (Q6 rfl) (fun _=>hR174) <|wy 21 rfl (Qp Vp rfl) (fun _=>hR174) ?_
 have hq158:=(Zn hx152)
 refine w1 22 rfl (Q8 4 1 hS rfl hb104 rfl rfl (Q1 hv142) (Q9 hv142) rfl (Yy (rr hb104) (vu (k:=6) rfl rfl (Q5 (rr hb104)) (Jf (vp (k:=6) rfl rfl (Q5 (rr hb104)) hx152) (Lf (Yh (vp (k:=6) rfl rfl (Q5 (rr hb104)) hx152)) (Q1 hv142))) hx154)) hd150 ?_)
 intro cs150 w149 hb150 ha150 hs150 hS
 have hp156:=(ha150 (by omega)).trans hp110
 have hp157:=(ha150 (by omega)).trans hp112
 have hp159:=hs150
 refine ⟨nB,?_⟩
 refine wy 23 rfl (Q6 rfl) nB <|wy 24 rfl (Qp V8 rfl) nB ?_
 have hq169:=(Zn hx163)
 refine w1 25 rfl (Q8 4 1 hS rfl hb150 rfl rfl (Q1 hv147) (Q9 hv147) rfl (Yy (rr hb150) (vu (k:=6) rfl rfl (Q5 (rr hb150)) (Jg (vp (k:=6) rfl rfl (Q5 (rr hb150)) hx163) (Lf (Yv (vp (k:=6) rfl rfl (Q5 (rr hb150)) hx163)) (Q1 hv147))) hx165)) hd161 ?_)
 intro cs161 w160 hb161 ha161 hs161 hS
 have hp167:=(ha161 (by omega)).trans hp156
 have hp168:=(ha161 (by omega)).trans hp159
 have hp170:=hs161
 refine ⟨nB,?_⟩
 refine wd (Qa ?_)
 exact ⟨M147,cs161,d166,v142,v147,hF125,hS,hb161,hp167,hp168,hp170,hT49_1,hT49_2,hT49_3,hT49_6,hT49_7,hT49_25,hT49_26,hT49_27,hz⟩
 intro v145 M145 w144 hx145 hv145 hS
 replace hv131:=Qw hx145.1 hv131
 replace hv140:=Qw hx145.1 hv140
 replace hG127:=Qc hG127 hx145
 refine Yr hS hG127 fun hR175 => ?_
 obtain ⟨hy142,hs142⟩:=Z1 hr142
 refine w1 8 rfl (Y3 (α := Int) (j:=2) Jh hS rfl rfl rfl hv131 hv140 hy142 ?_)
 intro v142 M142 w141 hx142 hv142 hS
 rw [← hs142] at hv142
 clear hr142 hs142
 replace hv134:=Qw (hx145.1.trans hx142.1) hv134
 replace hv145:=Qw hx142.1 hv145
 replace hG127:=Qc hG127 hx142
 refine Yr hS hG127 fun hR176 => ?_
 obtain ⟨hy147,hs147⟩:=Z1 hr147
 refine w1 19 rfl (Y3 (α := Int) (j:=1) Jh hS rfl rfl rfl hv134 hv145 hy147 ?_)
 intro v147 M147 w146 hx147 hv147 hS
 rw [← hs147] at hv147
 clear hr147 hs147
 replace hb104:=Rep.mono (hx145.1.trans (hx142.1.trans hx147.1)) hb104
 replace hv142:=Qw hx147.1 hv142
 replace hF125:=Qc hF125 (hx145.trans (hx142.trans hx147))
 replace hG127:=Qc hG127 hx147
 refine Yr hS hG127 fun hR177=>wy 20 rfl (Q6 rfl) (fun _=>hR177) <|wy 21 rfl (Qp Vp rfl) (fun _=>hR177) ?_
 have hq158:=(Zn hx152)
 refine w1 22 rfl (Q8 4 1 hS rfl hb104 rfl rfl (Q1 hv142) (Q9 hv142) rfl (Yy (rr hb104) (vu (k:=6) rfl rfl (Q5 (rr hb104)) (Jf (vp (k:=6) rfl rfl (Q5 (rr hb104)) hx152) (Lf (Yh (vp (k:=6) rfl rfl (Q5 (rr hb104)) hx152)) (Q1 hv142))) hx154)) hd150 ?_)
 intro cs150 w149 hb150 ha150 hs150 hS
 have hp156:=(ha150 (by omega)).trans hp110
 have hp157:=(ha150 (by omega)).trans hp112
 have hp159:=hs150
 refine ⟨nB,?_⟩
 refine wy 23 rfl (Q6 rfl) nB <|wy 24 rfl (Qp V8 rfl) nB ?_
 have hq169:=(Zn hx163)
 refine w1 25 rfl (Q8 4 1 hS rfl hb150 rfl rfl (Q1 hv147) (Q9 hv147) rfl (Yy (rr hb150) (vu (k:=6) rfl rfl (Q5 (rr hb150)) (Jg (vp (k:=6) rfl rfl (Q5 (rr hb150)) hx163) (Lf (Yv (vp (k:=6) rfl rfl (Q5 (rr hb150)) hx163)) (Q1 hv147))) hx165)) hd161 ?_)
 intro cs161 w160 hb161 ha161 hs161 hS
 have hp167:=(ha161 (by omega)).trans hp156
 have hp168:=(ha161 (by omega)).trans hp159
 have hp170:=hs161
 refine ⟨nB,?_⟩
 refine wd (Qa ?_)
 exact ⟨M147,cs161,d166,v142,v147,hF125,hS,hb161,hp167,hp168,hp170,hT49_1,hT49_2,hT49_3,hT49_6,hT49_7,hT49_25,hT49_26,hT49_27,hz⟩
 intro v145 M145 w144 hx145 hv145 hS
 replace hG127:=Qc hG127 hx145
 refine Yr hS hG127 fun hR178 => ?_
 refine w1 7 rfl (Z0 (α := Int) (l:=([y58]:List Int)) [.int .i64 y58] tl28 (Ys rfl Vf) rfl rfl (by decide) (by decide) (by decide) hS (K5 (ri y58:rep M145 _ _) Ji) ?_)
 intro v140 M140 w139 hx140 hv140 hS
 replace hv131:=Qw (hx145.1.trans hx140.1) hv131
 replace hG127:=Qc hG127 hx140
 refine Yr hS hG127 fun hR179 => ?_
 obtain ⟨hy142,hs142⟩:=Z1 hr142
 refine w1 8 rfl (Y3 (α := Int) (j:=2) Jh hS rfl rfl rfl hv131 hv140 hy142 ?_)
 intro v142 M142 w141 hx142 hv142 hS
 rw [← hs142] at hv142
 clear hr142 hs142
 replace hv134:=Qw (hx145.1.trans (hx140.1.trans hx142.1)) hv134
 replace hv145:=Qw (hx140.1.trans hx142.1) hv145
 replace hG127:=Qc hG127 hx142
 refine Yr hS hG127 fun hR180 => ?_
 obtain ⟨hy147,hs147⟩:=Z1 hr147
 refine w1 19 rfl (Y3 (α := Int) (j:=1) Jh hS rfl rfl rfl hv134 hv145 hy147 ?_)
 intro v147 M147 w146 hx147 hv147 hS
 rw [← hs147] at hv147
 clear hr147 hs147
 replace hb104:=Rep.mono (hx145.1.trans (hx140.1.trans (hx142.1.trans hx147.1))) hb104
 replace hv142:=Qw hx147.1 hv142
 replace hF125:=Qc hF125 (hx145.trans (hx140.trans (hx142.trans hx147)))
 replace hG127:=Qc hG127 hx147
 refine Yr hS hG127 fun hR181=>wy 20 rfl (Q6 rfl) (fun _=>hR181) <|wy 21 rfl (Qp Vp rfl) (fun _=>hR181) ?_
 have hq158:=(Zn hx152)
 refine w1 22 rfl (Q8 4 1 hS rfl hb104 rfl rfl (Q1 hv142) (Q9 hv142) rfl (Yy (rr hb104) (vu (k:=6) rfl rfl (Q5 (rr hb104)) (Jf (vp (k:=6) rfl rfl (Q5 (rr hb104)) hx152) (Lf (Yh (vp (k:=6) rfl rfl (Q5 (rr hb104)) hx152)) (Q1 hv142))) hx154)) hd150 ?_)
 intro cs150 w149 hb150 ha150 hs150 hS
 have hp156:=(ha150 (by omega)).trans hp110
 have hp157:=(ha150 (by omega)).trans hp112
 have hp159:=hs150
 refine ⟨nB,?_⟩
 refine wy 23 rfl (Q6 rfl) nB <|wy 24 rfl (Qp V8 rfl) nB ?_
 have hq169:=(Zn hx163)
 refine w1 25 rfl (Q8 4 1 hS rfl hb150 rfl rfl (Q1 hv147) (Q9 hv147) rfl (Yy (rr hb150) (vu (k:=6) rfl rfl (Q5 (rr hb150)) (Jg (vp (k:=6) rfl rfl (Q5 (rr hb150)) hx163) (Lf (Yv (vp (k:=6) rfl rfl (Q5 (rr hb150)) hx163)) (Q1 hv147))) hx165)) hd161 ?_)
 intro cs161 w160 hb161 ha161 hs161 hS
 have hp167:=(ha161 (by omega)).trans hp156
 have hp168:=(ha161 (by omega)).trans hp159
 have hp170:=hs161
 refine ⟨nB,?_⟩
 refine wd (Qa ?_)
 exact ⟨M147,cs161,d166,v142,v147,hF125,hS,hb161,hp167,hp168,hp170,hT49_1,hT49_2,hT49_3,hT49_6,hT49_7,hT49_25,hT49_26,hT49_27,hz⟩
 rintro T116 w114 ⟨M115,cs117,d118,v120,v122,hx124,hS,hb117,hp119,hp121,hp123,hT116_1,hT116_2,hT116_3,hT116_6,hT116_7,hT116_25,hT116_26,hT116_27,hz⟩
 replace hF76:=Qc hF76 hx124
 rw [nodeOne_j2] at hz
 refine (Q7 ?_)
 refine (Qa ?_)
 exact ⟨M115,cs117,d118,v52,v120,v122,hF76,(Yk hS hb81),hb117,hp119,hp121,hp123,hT116_1,hT116_2,hT116_3,hT116_6,hT116_7,hT116_25,hT116_26,hT116_27,hz⟩
 replace hz:=Qo hz hc88
 refine Qv (Q7 ?_)
 refine (Qa ?_)
 exact ⟨M48,cs50,d51,v52,v54,v56,hF76,(Yk hS hb81),hb50,hp53,hp55,hp57,hT49_1,hT49_2,hT49_3,hT49_6,hT49_7,hT49_25,hT49_26,hT49_27,hz⟩
 rintro T66 w64 ⟨M65,cs67,d68,v69,v71,v73,hx75,hS,hb67,hp70,hp72,hp74,hT66_1,hT66_2,hT66_3,hT66_6,hT66_7,hT66_25,hT66_26,hT66_27,hz⟩
 replace hF61:=Qc hF61 hx75
 rw [nodeOne_j1] at hz
 refine Qi <|Qd (Zz hT66_27 rfl) <|Qd (Qe (.int .i64 (IntKind.wrap .i64 (y58+1))) rfl) ?_
 refine Qf (Qa ?_)
 exact ⟨M65,cs67,d68,v69,v71,v73,(IntKind.wrap .i64 (y58+1)),hF61,hS,hb67,hp70,hp72,hp74,hT66_1,hT66_2,hT66_3,hT66_6,hT66_7,hT66_25,hT66_26,rfl,(by rw [← hrec59];exact hz)⟩
 replace hz:=Qo hz hc63
 refine Zs <|Q0 <|Q0 <|Zt ?_
 refine (Qa ?_)
 refine Qh <|Qi <|Qd (Qp K0 hT49_3) ?_
 obtain ⟨v182,ev182,hv182⟩:=(Vz (rr hb50))
 rw [Vu ev182 hp53] at hv182
 refine Qd (Ql v52 Z2 rfl (hS.bvB 3 rfl) hp53) <|Qd (Qe (.int .i64 x3) hT49_1) ?_
 refine Qu (Z0 (α := Int) (l:=([x3]:List Int)) [.int .i64 x3] tl28 (Ys rfl Vf) rfl rfl (by decide) (by decide) (by decide) hS (K5 (ri x3:rep M48 _ _) Ji) ?_)
 intro v184 M184 w183 hx184 hv184 hS
 replace hv182:=Qw hx184.1 hv182
 obtain ⟨l187,hr186,hz⟩:=Qb hz
 obtain ⟨hy186,hs186⟩:=Z1 hr186
 refine Qu (Y3 (α := Int) (j:=4) Jh hS rfl rfl rfl hv182 hv184 hy186 ?_)
 intro v186 M186 w185 hx186 hv186 hS
 rw [← hs186] at hv186
 clear hr186 hs186
 replace zb8:=Rep.mono (hx184.1.trans hx186.1) zb8
 replace hb50:=Rep.mono (hx184.1.trans hx186.1) hb50
 replace hE:=Qc hE (hx184.trans hx186)
 refine Qd (Qp K0 hT49_3) ?_
 obtain ⟨d190,hd189,hz⟩:=Qb hz
 refine Qu (Q8 3 1 hS rfl hb50 rfl rfl (Q1 hv186) (Q9 hv186) rfl (GNode.u1 (rr hb50) (Lf (Vz (rr hb50)) (Q1 hv186))) hd189 ?_)
 intro cs189 w188 hb189 ha189 hs189 hS
 have hp191:=(ha189 (by omega)).trans hp55
 have hp192:=(ha189 (by omega)).trans hp57
 have hp193:=hs189
 refine Qf (Qa ?_)
 refine Qh <|Qi ?_
 have ha194:=(rr hb189)
 have hp195:sl (sl cs189 (0) 201) 192 1=[v186]:=(Kq (by decide)).trans hp193
 refine Qd (Zg Vc hT49_3 (hS.bvB 3 rfl) (Rep.len ha194)) ?_
 obtain ⟨d198,hd197,hz⟩:=Qb hz
 refine Qu (Q8 2 201 hS rfl zb8 hT49_6 rfl ha194 rfl rfl (Lf (rr zb8) ha194) hd197 ?_)
 intro cs197 w196 hb197 ha197 hs197 hS
 have hp199:sl cs197 (0+192) 1=[v186]:=Kn hs197 hp195 (by decide)
 refine Qf (Qa ?_)
 cases hz
 exact Q4 (Jp (j:=2) rfl hT49_6 (by rw [Rep.len hb197];exact Vc) hS rfl ⟨_,M186,_,rfl,hE,(hS.sel (H':=[.row v186 3 1]) [4] (by decide) rfl),cs197,v186,rfl,rfl,hb197,hp199⟩)
def nodeExec_j1 (y32:Int) (rec33:GNode→Int→Option GNode) (d42:GNode):Option GNode :=
 rec33 d42 (IntKind.wrap .i64 (y32+1))
def nodeExec_j2 (y64:Int) (rec65:GNode→Int→Option GNode) (d74:GNode):Option GNode :=
 rec65 d74 (IntKind.wrap .i64 (y64+1))
def nodeExec_l2 (fu:Nat) (x2:Int) (y32:Int) (rec33:GNode→Int→Option GNode) (r55:(List Int)):Nat→GNode→Int→Option GNode
 | 0,_,_=>none
 | n+1,d61,y64 =>
 (bif decide (y64<(r55.length:Int)) then
 (idx r55 y64).bind fun x80 =>
 (inR x80 32).bind fun _ =>
 (idxV d61.entries x80).bind fun x83 =>
 (bif x83.state==2 then
 (nodeOneD fu d61 x80 x2).bind fun r90 =>
 (some r90).bind fun d93 =>
 nodeExec_j2 y64 (nodeExec_l2 fu x2 y32 rec33 r55 n) d93
 else
 nodeExec_j2 y64 (nodeExec_l2 fu x2 y32 rec33 r55 n) d61)
 else
 nodeExec_j1 y32 rec33 d61)
def nodeExec_l1 (fu:Nat) (x2:Int) (d15:GGraph):Nat→GNode→Int→Option GNode
 | 0,_,_=>none
 | n+1,d29,y32 =>
 (bif decide (y32<32) then
 (inR y32 32).bind fun _ =>
 (idxV d29.entries y32).bind fun x49 =>
 (bif x49.state != 2 then
 nodeExec_j1 y32 (nodeExec_l1 fu x2 d15 n) d29
 else
 (gorderD fu d15 y32).bind fun r55 =>
 nodeExec_l2 fu x2 y32 (nodeExec_l1 fu x2 d15 n) r55 fu d29 0)
 else
 (some d29).bind fun d99 =>
 some d99)
def nodeExecD (fu:Nat) (x1:GNode) (x2:Int):Option GNode :=
 (nodeGraphD fu x1).bind fun r10 =>
 (some r10).bind fun d15 =>
 (cloneIntsD fu x1.order).bind fun r19 =>
 (some ({ x1 with order:=r19 }:GNode)).bind fun d23 =>
 nodeExec_l1 fu x2 d15 fu d23 0
set_option maxRecDepth 100000 in
set_option maxHeartbeats 4000000 in
theorem nodeExec_ok {M:Mm} {w:World} {cx1:List Value} {x1:GNode} {x2:Int} {fu:Nat} {r:GNode} (hA:Agree M w) (hcx1:rep M cx1 x1) (hz:nodeExecD fu x1 x2=some r) :
    Calls Try.prog 89 #[.agg cx1.toArray,.int .i64 x2] w (Gives M w (fun M' u => ∃ cs,u = .agg cs.toArray∧rep M' cs r)):=by
 refine Zh Try.func89 rfl 45 rfl rfl (by kernel_rfl) fun T hT => ?_
 have hT_0:T 0 = .agg cx1.toArray:=hT 0
 have hT_1:T 1 = .int .i64 x2:=hT 1
 clear hT
 have hE:=Qg w.heap.size noX M
 have hS:St w noX M [] w:=Zv hA
 rw [nodeExecD] at hz
 refine Qh <|Qi ?_
 refine Qu (Yo (v := .agg cx1.toArray) (cs:=cx1) hT_0 rfl hS ?_)
 intro b4 w3 hb4 hS
 refine Qu (Zf tz34 hS ?_)
 intro b6 w5 hb6 hS
 have zb6:rep M (Zr.zc GNode) (Zr.zd:GNode):=Zr.zr
 refine Qf (Qa ?_)
 refine Qh <|Qi ?_
 have ha7:=(rr hcx1)
 refine Qd (Zg Vc rfl (hS.bvB 1 rfl) (Rep.len ha7)) ?_
 obtain ⟨r10,hr9,hz⟩:=Qb hz
 refine Qu (Y1 (vs:=[.agg (sl cx1 (0) 201).toArray]) (rv:=(fun M' u => ∃ cs,u = .agg cs.toArray∧rep M' cs r10)) cb90 (Zu rfl) hS (nodeGraph_ok hS.agree ha7 hr9) ?_)
 intro u9 M9 w8 hx9 hu9 hS
 obtain ⟨c9,hq9,f9⟩:=hu9
 subst hq9
 replace hcx1:=Rep.mono hx9.1 hcx1
 refine Qu (Zf tz61 hS ?_)
 intro b12 w11 hb12 hS
 have zb12:rep M9 (Zr.zc GGraph) (Zr.zd:GGraph):=Zr.zr
 obtain ⟨d15,hd14,hz⟩:=Qb hz
 refine Qu (Q8 0 64 hS rfl zb12 rfl rfl f9 rfl rfl (Lf (rr zb12) f9) hd14 ?_)
 intro cs14 w13 hb14 ha14 hs14 hS
 refine Qf (Qa ?_)
 refine Qh <|Qi <|Qd (Qp K0 rfl) ?_
 obtain ⟨v16,ev16,hv16⟩:=(Vz (rr hcx1))
 refine Qd (Ql v16 Z2 rfl (hS.bvB 2 rfl) ev16) ?_
 obtain ⟨r19,hr18,hz⟩:=Qb hz
 refine Qu (Zw (vs:=[v16]) (L:=[]) (R:=[.box b12 cs14 61,.box b6 (Zr.zc GNode) 34,.box b4 cx1 34]) (rv:=(fun M' u L' => ∃ v0,u=v0∧L'=[.row v0 3 1]∧repL M' v0 r19)) cb44 (Zu rfl) hS (hS.sel [0,1,2] (by decide) rfl) (fun hS=>Vk hS.agree hv16 hr18) ?_)
 rintro u18 M18 w17 L18 hx18 ⟨v0_18,rfl,hL18,f18_0⟩ hS
 replace hS:=hS _ hL18
 replace hcx1:=Rep.mono hx18.1 hcx1
 replace zb6:=Rep.mono (hx9.1.trans hx18.1) zb6
 replace hb14:=Rep.mono hx18.1 hb14
 replace hE:=Qc hE (hx9.trans hx18)
 refine Qd (Qp K0 rfl) ?_
 obtain ⟨d23,hd22,hz⟩:=Qb hz
 refine Qu (Q8 3 1 hS rfl hcx1 rfl rfl (Q1 f18_0) (Q9 f18_0) rfl (GNode.u1 (rr hcx1) (Lf (Vz (rr hcx1)) (Q1 f18_0))) hd22 ?_)
 intro cs22 w21 hb22 ha22 hs22 hS
 have hp24:=hs22
 refine Qf (Qa ?_)
 refine Qh <|Qh <|Qi <|Qd (Qe (.int .i64 0) rfl) ?_
 refine Qf (Qa ?_)
 refine Qy ?_
 refine Zy (fun k34 T' w' => ∃ M26 cs28 d29 v30 y32,Mm.ext w.heap.size noX M18 M26∧St w noX M26 [.row v30 3 1,.box b12 cs14 61,.box b6 (Zr.zc GNode) 34,.box b4 cs28 34] w'∧rep M26 cs28 d29∧sl cs28 (0+192) 1=[v30]∧T' 1 = .int .i64 x2∧T' 2 = .pointer (some ⟨b4,0,none⟩)∧T' 4 = .pointer (some ⟨b6,0,none⟩)∧T' 5 = .pointer (some ⟨b12,0,none⟩)∧T' 15 = .int .i64 y32∧nodeExec_l1 fu x2 d15 k34 d29 y32=some r) fu ?_ ?_ ?_
 exact ⟨M18,cs22,d23,u18,(0:Int),(Qg _ _ _),hS,hb22,hp24,hT_1,rfl,rfl,rfl,rfl,hz⟩
 rintro T' w' ⟨_,_,_,_,_,_,_,_,_,_,_,_,_,_,hz⟩
 rw [nodeExec_l1] at hz
 cases hz
 intro k34
 rintro T27 w25 ⟨M26,cs28,d29,v30,y32,hx36,hS,hb28,hp31,hT27_1,hT27_2,hT27_4,hT27_5,hT27_15,hz⟩
 replace zb6:=Rep.mono hx36.1 zb6
 replace hb14:=Rep.mono hx36.1 hb14
 replace hE:=Qc hE hx36
 have hF35:=hx36
 rw [nodeExec_l1] at hz
 obtain ⟨rec33,hrec33⟩ : ∃ f,f=nodeExec_l1 fu x2 d15 k34:=⟨_,rfl⟩
 rw [← hrec33] at hz
 refine Qh <|Qi <|Qd (Zq hT27_15 rfl) ?_
 refine Qf (Qa ?_)
 refine Qh ?_
 refine Qr rfl (fun hc37 => ?_) (fun hc37 => ?_)
 replace hz:=Qn hz hc37
 refine Qv (Qa ?_)
 refine Qz (fun T' w' => ∃ M39 cs41 d42 v43,Mm.ext w.heap.size noX M26 M39∧St w noX M39 [.row v43 3 1,.box b12 cs14 61,.box b6 (Zr.zc GNode) 34,.box b4 cs41 34] w'∧rep M39 cs41 d42∧sl cs41 (0+192) 1=[v43]∧T' 1 = .int .i64 x2∧T' 2 = .pointer (some ⟨b4,0,none⟩)∧T' 4 = .pointer (some ⟨b6,0,none⟩)∧T' 5 = .pointer (some ⟨b12,0,none⟩)∧T' 15 = .int .i64 y32∧nodeExec_j1 y32 rec33 d42=some r) ?_ ?_
 have hF46:=Qg w.heap.size noX M26
 refine Qy <|Qh <|Qi <|Qd (Qe (.int .i64 y32) hT27_15) <|Qd (Qj (.int .i64 y32) rfl) ?_
 refine Qf (Qa ?_)
 refine Qh <|Qh <|Qi <|Qd (Qe (.int .i64 y32) rfl) <|Qd (Qp Kk hT27_2) ?_
 obtain ⟨u47,hx48,hz⟩:=Qb hz
 obtain ⟨hx48a,hx48b⟩:=Qt hx48
 refine Qd (Za ia31 rfl rfl hx48a hx48b) <|Qd (Qp Y9 rfl) ?_
 obtain ⟨x49,hx50,hz⟩:=Qb hz
 refine Qd (Ql (.int .i64 x49.state) Z5 rfl (hS.bvB 3 rfl) (Yf (vp (k:=6) rfl rfl (Q5 (rr hb28)) hx50))) <|Qd (Yp rfl rfl) ?_
 refine Qf (Qa ?_)
 refine Qr rfl (fun hc51 => ?_) (fun hc51 => ?_)
 replace hz:=Qn hz hc51
 refine Zs <|Q0 <|Zt ?_
 refine (Qa ?_)
 exact ⟨M26,cs28,d29,v30,hF46,hS,hb28,hp31,hT27_1,hT27_2,hT27_4,hT27_5,hT27_15,hz⟩
 replace hz:=Qo hz hc51
 refine Qv (Qa ?_)
 refine Qh <|Qi ?_
 have ha52:=(rr hb14)
 refine Qd (Zg ta61 hT27_5 (hS.bvB 1 rfl) (Rep.len ha52)) <|Qd (Qe (.int .i64 y32) rfl) ?_
 obtain ⟨r55,hr54,hz⟩:=Qb hz
 refine Qu (Y1 (vs:=[.agg (sl cs14 (0) 64).toArray,.int .i64 y32]) (rv:=(fun M' u=>repL M' u r55)) cb26 (Ya rfl rfl) hS (gorder_ok hS.agree ha52 hr54) ?_)
 intro u54 M54 w53 hx54 hu54 hS
 have f54:repL M54 u54 r55:=hu54
 replace hb28:=Rep.mono hx54.1 hb28
 replace hF46:=Qc hF46 hx54
 obtain ⟨a56,c56,hv56,_⟩:=Q3 f54
 refine Qd (Zk Qq (Vw hv56 rfl)) <|Qd (Qe (.int .i64 0) rfl) ?_
 refine Qf (Qa ?_)
 refine Qy ?_
 refine Zy (fun k66 T' w' => ∃ M58 cs60 d61 v62 y64,Mm.ext w.heap.size noX M54 M58∧St w noX M58 [.row v62 3 1,.box b12 cs14 61,.box b6 (Zr.zc GNode) 34,.box b4 cs60 34] w'∧rep M58 cs60 d61∧sl cs60 (0+192) 1=[v62]∧T' 1 = .int .i64 x2∧T' 2 = .pointer (some ⟨b4,0,none⟩)∧T' 4 = .pointer (some ⟨b6,0,none⟩)∧T' 5 = .pointer (some ⟨b12,0,none⟩)∧T' 15 = .int .i64 y32∧T' 26=u54∧T' 27 = .int .i64 (r55.length:Int)∧T' 28 = .int .i64 y64∧nodeExec_l2 fu x2 y32 rec33 r55 k66 d61 y64=some r) fu ?_ ?_ ?_
 exact ⟨M54,cs28,d29,v30,(0:Int),(Qg _ _ _),hS,hb28,hp31,hT27_1,hT27_2,hT27_4,hT27_5,hT27_15,rfl,rfl,rfl,hz⟩
 rintro T' w' ⟨_,_,_,_,_,_,_,_,_,_,_,_,_,_,_,_,_,hz⟩
 rw [nodeExec_l2] at hz
 cases hz
 intro k66
 rintro T59 w57 ⟨M58,cs60,d61,v62,y64,hx68,hS,hb60,hp63,hT59_1,hT59_2,hT59_4,hT59_5,hT59_15,hT59_26,hT59_27,hT59_28,hz⟩
 replace f54:=Qw hx68.1 f54
 replace hF46:=Qc hF46 hx68
 have hF67:=hx68
 rw [nodeExec_l2] at hz
 obtain ⟨rec65,hrec65⟩ : ∃ f,f=nodeExec_l2 fu x2 y32 rec33 r55 k66:=⟨_,rfl⟩
 rw [← hrec65] at hz
 refine Qh <|Qi <|Qd (Zq hT59_28 hT59_27) ?_
 refine Qf (Qa ?_)
 refine Qh ?_
 refine Qr rfl (fun hc69 => ?_) (fun hc69 => ?_)
 replace hz:=Qn hz hc69
 refine Qv (Qa ?_)
 refine Qz (fun T' w' => ∃ M71 cs73 d74 v75,Mm.ext w.heap.size noX M58 M71∧St w noX M71 [.row v75 3 1,.box b12 cs14 61,.box b6 (Zr.zc GNode) 34,.box b4 cs73 34] w'∧rep M71 cs73 d74∧sl cs73 (0+192) 1=[v75]∧T' 1 = .int .i64 x2∧T' 2 = .pointer (some ⟨b4,0,none⟩)∧T' 4 = .pointer (some ⟨b6,0,none⟩)∧T' 5 = .pointer (some ⟨b12,0,none⟩)∧T' 15 = .int .i64 y32∧T' 26=u54∧T' 27 = .int .i64 (r55.length:Int)∧T' 28 = .int .i64 y64∧nodeExec_j2 y64 rec65 d74=some r) ?_ ?_
 have hF78:=Qg w.heap.size noX M58
 refine Qy <|Qh <|Qi ?_
 obtain ⟨x80,hx79,hz⟩:=Qb hz
 obtain ⟨b79,o79,c79,p79,hv79,hi79,hj79,hM79,hr79⟩:=Yd f54 hx79
 replace hr79:rep _ (sl p79 (o79+Int.toNat y64*1) 1) x80:=hr79
 refine Qd (Yq V6 hT59_26 hv79 hT59_28 hi79 hj79) <|Qd (Ql (.int .i64 x80) Z5 rfl (hS.bvM hM79) hr79) <|Qd (Qj (.int .i64 x80) rfl) ?_
 refine Qf (Qa ?_)
 refine Qh <|Qi <|Qd (Qe (.int .i64 x80) rfl) <|Qd (Qp Kk hT59_2) ?_
 obtain ⟨u81,hx82,hz⟩:=Qb hz
 obtain ⟨hx82a,hx82b⟩:=Qt hx82
 refine Qd (Za ia31 rfl rfl hx82a hx82b) <|Qd (Qp Y9 rfl) ?_
 obtain ⟨x83,hx84,hz⟩:=Qb hz
 refine Qd (Ql (.int .i64 x83.state) Z5 rfl (hS.bvB 3 rfl) (Yf (vp (k:=6) rfl rfl (Q5 (rr hb60)) hx84))) <|Qd (Yc rfl rfl) ?_
 refine Qf (Qa ?_)
 refine Qr rfl (fun hc85 => ?_) (fun hc85 => ?_)
 replace hz:=Qn hz hc85
 refine Qi ?_
 have ha86:=(rr hb60)
 have hp87:sl (sl cs60 (0) 201) 192 1=[v62]:=(Kq (by decide)).trans hp63
 refine Qd (Zg Vc hT59_2 (hS.bvB 3 rfl) (Rep.len ha86)) <|Qd (Qe (.int .i64 x80) rfl) <|Qd (Qe (.int .i64 x2) hT59_1) ?_
 obtain ⟨r90,hr89,hz⟩:=Qb hz
 refine Qu (Zw (vs:=[.agg (sl cs60 (0) 201).toArray,.int .i64 x80,.int .i64 x2]) (L:=[.row v62 3 1]) (R:=[.box b12 cs14 61,.box b6 (Zr.zc GNode) 34,.box b4 cs60 34]) (rv:=(fun M' u L' => ∃ c0 u0,u = .agg c0.toArray∧L'=[.row u0 3 1]∧rep M' c0 r90∧sl c0 192 1=[u0])) cb91 (Jj rfl rfl rfl) hS (hS.sel [0,1,2,3] (by decide) rfl) (fun hS=>nodeOne_ok hS ha86 hp87 hr89) ?_)
 rintro u89 M89 w88 L89 hx89 ⟨c0_89,u0_89,rfl,hL89,f89_0,f89_1⟩ hS
 replace hS:=hS _ hL89
 replace hb60:=Rep.mono hx89.1 hb60
 replace hF78:=Qc hF78 hx89
 obtain ⟨d93,hd92,hz⟩:=Qb hz
 refine Qu (Q8 3 201 hS rfl hb60 hT59_2 rfl f89_0 rfl rfl (Lf (rr hb60) f89_0) hd92 ?_)
 intro cs92 w91 hb92 ha92 hs92 hS
 have hp94:sl cs92 (0+192) 1=[u0_89]:=Kn hs92 f89_1 (by decide)
 refine Qf (Q7 ?_)
 refine (Qa ?_)
 exact ⟨M89,cs92,d93,u0_89,hF78,hS,hb92,hp94,hT59_1,hT59_2,hT59_4,hT59_5,hT59_15,hT59_26,hT59_27,hT59_28,hz⟩
 replace hz:=Qo hz hc85
 refine Qv (Q7 ?_)
 refine (Qa ?_)
 exact ⟨M58,cs60,d61,v62,hF78,hS,hb60,hp63,hT59_1,hT59_2,hT59_4,hT59_5,hT59_15,hT59_26,hT59_27,hT59_28,hz⟩
 rintro T72 w70 ⟨M71,cs73,d74,v75,hx77,hS,hb73,hp76,hT72_1,hT72_2,hT72_4,hT72_5,hT72_15,hT72_26,hT72_27,hT72_28,hz⟩
 replace hF67:=Qc hF67 hx77
 rw [nodeExec_j2] at hz
 refine Qi <|Qd (Zz hT72_28 rfl) <|Qd (Qe (.int .i64 (IntKind.wrap .i64 (y64+1))) rfl) ?_
 refine Qf (Qa ?_)
 exact ⟨M71,cs73,d74,v75,(IntKind.wrap .i64 (y64+1)),hF67,hS,hb73,hp76,hT72_1,hT72_2,hT72_4,hT72_5,hT72_15,hT72_26,hT72_27,rfl,(by rw [← hrec65];exact hz)⟩
 replace hz:=Qo hz hc69
 refine Zs <|Q0 <|Q0 <|Zt ?_
 refine (Q7 ?_)
 refine (Qa ?_)
 exact ⟨M58,cs60,d61,v62,hF46,hS,hb60,hp63,hT59_1,hT59_2,hT59_4,hT59_5,hT59_15,hz⟩
 rintro T40 w38 ⟨M39,cs41,d42,v43,hx45,hS,hb41,hp44,hT40_1,hT40_2,hT40_4,hT40_5,hT40_15,hz⟩
 replace hF35:=Qc hF35 hx45
 rw [nodeExec_j1] at hz
 refine Qi <|Qd (Zz hT40_15 rfl) <|Qd (Qe (.int .i64 (IntKind.wrap .i64 (y32+1))) rfl) ?_
 refine Qf (Qa ?_)
 exact ⟨M39,cs41,d42,v43,(IntKind.wrap .i64 (y32+1)),hF35,hS,hb41,hp44,hT40_1,hT40_2,hT40_4,hT40_5,rfl,(by rw [← hrec33];exact hz)⟩
 replace hz:=Qo hz hc37
 refine Zs <|Q0 <|Q0 <|Zt ?_
 refine (Qa ?_)
 refine Qh <|Qi ?_
 have ha95:=(rr hb28)
 have hp96:sl (sl cs28 (0) 201) 192 1=[v30]:=(Kq (by decide)).trans hp31
 refine Qd (Zg Vc hT27_2 (hS.bvB 3 rfl) (Rep.len ha95)) ?_
 obtain ⟨d99,hd98,hz⟩:=Qb hz
 refine Qu (Q8 2 201 hS rfl zb6 hT27_4 rfl ha95 rfl rfl (Lf (rr zb6) ha95) hd98 ?_)
 intro cs98 w97 hb98 ha98 hs98 hS
 have hp100:sl cs98 (0+192) 1=[v30]:=Kn hs98 hp96 (by decide)
 refine Qf (Qa ?_)
 cases hz
 exact Q4 (Jp (j:=2) rfl hT27_4 (by rw [Rep.len hb98];exact Vc) hS rfl (Zj (Qm (Qm (Qm (Qm hS)))) hE ⟨_,rfl,hb98⟩))
def nodeTake_j3 (d50:GNode) (l51:List GFrame) (y53:Int):Option (GNode × (List GFrame) × Int) :=
 some (d50,l51,y53)
def nodeTake_j2 (x2:Int) (x3:GFrame) (d44:GNode):Option (GNode × (List GFrame) × Int) :=
 (idxV d44.entries x3.id).bind fun x60 =>
 (some ({ kind:=2,node:=x2,id:=x3.id,ops:=Zr.zd,deps:=x60.first,at_:=Zr.zd,vals:=Zr.zd }:GFrame)).bind fun d64 =>
 (some d44).bind fun d69 =>
 nodeTake_j3 d69 ([d64]:List GFrame) 0
def nodeTake_j5 (d102:GNode) (l112:List GFrame):Option (GNode × (List GFrame) × Int) :=
 (some d102).bind fun d118 =>
 some (d118,l112,0)
def nodeTake_j6 (x2:Int) (x3:GFrame) (d102:GNode) (d105:GFrame) (d129:GEntry) (c133:Bool):Option (GNode × (List GFrame) × Int) :=
 (bif c133 then
 (some ({ kind:=5,node:=x2,id:=x3.id,ops:=Zr.zd,deps:=Zr.zd,at_:=d129.at_,vals:=d129.values }:GFrame)).bind fun d139 =>
 (app ([d105]:List GFrame) ([d139]:List GFrame)).bind fun l144 =>
 nodeTake_j5 d102 l144
 else
 nodeTake_j5 d102 ([d105]:List GFrame))
def nodeTake_j4 (x2:Int) (x3:GFrame) (r27:Int) (d102:GNode):Option (GNode × (List GFrame) × Int) :=
 (some ({ kind:=4,node:=x2,id:=x3.id,ops:=Zr.zd,deps:=Zr.zd,at_:=Zr.zd,vals:=Zr.zd }:GFrame)).bind fun d105 =>
 (inR x3.id 32).bind fun _ =>
 (idxV d102.entries x3.id).bind fun x122 =>
 (some x122).bind fun d129 =>
 (bif d129.state==3 then
 (some (touchesZ d129.ops r27)).bind fun r150 =>
 nodeTake_j6 x2 x3 d102 d105 d129 r150
 else
 nodeTake_j6 x2 x3 d102 d105 d129 false)
def nodeTake_j7 (fu:Nat) (x2:Int) (x3:GFrame) (r27:Int) (d159:GNode):Option (GNode × (List GFrame) × Int) :=
 (idxV d159.entries x3.id).bind fun x168 =>
 (setV d159.entries x3.id ({ x168 with state:=2 })).bind fun a170 =>
 (some ({ d159 with entries:=a170 }:GNode)).bind fun d172 =>
 (idxV d172.entries x3.id).bind fun x176 =>
 (setV d172.entries x3.id ({ x176 with ops:=x3.ops })).bind fun a178 =>
 (some ({ d172 with entries:=a178 }:GNode)).bind fun d180 =>
 (idxV d180.entries x3.id).bind fun x184 =>
 (setV d180.entries x3.id ({ x184 with deps:=x3.deps })).bind fun a186 =>
 (some ({ d180 with entries:=a186 }:GNode)).bind fun d188 =>
 (nodeExecD fu d188 r27).bind fun r193 =>
 (some r193).bind fun d196 =>
 nodeTake_j4 x2 x3 r27 d196
def nodeTake_j1 (fu:Nat) (x1:GNode) (x2:Int) (x3:GFrame) (d14:GNode):Option (GNode × (List GFrame) × Int) :=
 (some (frameZ x3)).bind fun r19 =>
 (bif r19 != 0 then
 (some x1).bind fun d24 =>
 some (d24,[],r19)
 else
 (some (ofZ x2)).bind fun r27 =>
 (inR x3.id 32).bind fun _ =>
 (bif x3.kind==1 then
 (some (touchesZ x3.ops r27)).bind fun r34 =>
 (bif !r34 then
 (some x1).bind fun d39 =>
 some (d39,[],4)
 else
 (idxV x1.entries x3.id).bind fun x75 =>
 (bif x75.state==0 then
 (nodeAheadD fu x1 x3.id x3.ops r27).bind fun r86 =>
 (some ({ state:=1,ops:=x3.ops,first:=r86,deps:=Zr.zd,at_:=Zr.zd,values:=Zr.zd }:GEntry)).bind fun d89 =>
 (idxV x1.entries x3.id).bind fun x92 =>
 (setV x1.entries x3.id d89).bind fun a94 =>
 (some ({ x1 with entries:=a94 }:GNode)).bind fun d96 =>
 nodeTake_j2 x2 x3 d96
 else
 nodeTake_j2 x2 x3 x1))
 else
 (bif x3.kind==3 then
 (idxV x1.entries x3.id).bind fun x152 =>
 (bif decide (x152.state<2) then
 (idxV x1.entries x3.id).bind fun x198 =>
 (bif x198.state==0 then
 (nodeAheadD fu x1 x3.id x3.ops r27).bind fun r205 =>
 (idxV x1.entries x3.id).bind fun x208 =>
 (setV x1.entries x3.id ({ x208 with first:=r205 })).bind fun a210 =>
 (some ({ x1 with entries:=a210 }:GNode)).bind fun d212 =>
 nodeTake_j7 fu x2 x3 r27 d212
 else
 nodeTake_j7 fu x2 x3 r27 x1)
 else
 nodeTake_j4 x2 x3 r27 x1)
 else
 (some x1).bind fun d216 =>
 some (d216,[],3))))
def nodeTake_j8 (fu:Nat) (x1:GNode) (x2:Int) (x3:GFrame) (c221:Bool):Option (GNode × (List GFrame) × Int) :=
 (bif c221 then
 (some x1).bind fun d227 =>
 some (d227,[],2)
 else
 nodeTake_j1 fu x1 x2 x3 (Zr.zd:GNode))
def nodeTakeD (fu:Nat) (x1:GNode) (x2:Int) (x3:GFrame):Option (GNode × (List GFrame) × Int) :=
 (nodeGoodD fu x1).bind fun r232 =>
 (bif !r232 then
 nodeTake_j8 fu x1 x2 x3 true
 else
 (nodeIsD fu x2).bind fun r236 =>
 (bif !r236 then
 nodeTake_j8 fu x1 x2 x3 true
 else
 nodeTake_j8 fu x1 x2 x3 (x3.node != x2)))
set_option maxRecDepth 100000 in
set_option maxHeartbeats 4000000 in
theorem nodeTake_ok {M:Mm} {w:World} {cx1:List Value} {cx3:List Value} {x1:GNode} {x2:Int} {x3:GFrame} {fu:Nat} {r:GNode × (List GFrame) × Int} (hA:Agree M w) (hcx1:rep M cx1 x1) (hcx3:rep M cx3 x3) (hz:nodeTakeD fu x1 x2 x3=some r) :
    Calls Try.prog 81 #[.agg cx1.toArray,.int .i64 x2,.agg cx3.toArray] w (Gives M w (fun M' u => ∃ c0 v1,u = .tuple #[.agg c0.toArray,v1,.int .i64 r.2.2]∧rep M' c0 r.1∧repL M' v1 r.2.1)):=by
 refine Zh Try.func81 rfl 149 rfl rfl (by kernel_rfl) fun T hT => ?_
 have hT_0:T 0 = .agg cx1.toArray:=hT 0
 have hT_1:T 1 = .int .i64 x2:=hT 1
 have hT_2:T 2 = .agg cx3.toArray:=hT 2
 clear hT
 have hE:=Qg w.heap.size noX M
 have hS:St w noX M [] w:=Zv hA
 rw [nodeTakeD] at hz
 refine Qh <|Qi ?_
 refine Qu (Yo (v := .agg cx1.toArray) (cs:=cx1) hT_0 rfl hS ?_)
 intro b5 w4 hb5 hS
 refine Qu (Yo (v := .agg cx3.toArray) (cs:=cx3) hT_2 rfl hS ?_)
 intro b7 w6 hb7 hS
 refine Qu (Zf tz34 hS ?_)
 intro b9 w8 hb9 hS
 have zb9:rep M (Zr.zc GNode) (Zr.zd:GNode):=Zr.zr
 refine Q2 2 rfl ?_
 refine Qf (Qa ?_)
 refine Qz (fun T' w' => ∃ M11 cs13 d14,Mm.ext w.heap.size noX M M11∧St w noX M11 [.box b9 cs13 34,.box b7 cx3 118,.box b5 cx1 34] w'∧rep M11 cs13 d14∧T' 1 = .int .i64 x2∧T' 3 = .pointer (some ⟨b5,0,none⟩)∧T' 5 = .pointer (some ⟨b7,0,none⟩)∧T' 6 = .pointer (some ⟨b9,0,none⟩)∧nodeTake_j1 fu x1 x2 x3 d14=some r) ?_ ?_
 have hF217:=Qg w.heap.size noX M
 refine Qz (fun T' w' => ∃ M219 c221,Mm.ext w.heap.size noX M M219∧St w noX M219 [.box b9 (Zr.zc GNode) 34,.box b7 cx3 118,.box b5 cx1 34] w'∧T' 1 = .int .i64 x2∧T' 3 = .pointer (some ⟨b5,0,none⟩)∧T' 5 = .pointer (some ⟨b7,0,none⟩)∧T' 6 = .pointer (some ⟨b9,0,none⟩)∧T' 27 = .bool c221∧nodeTake_j8 fu x1 x2 x3 c221=some r) ?_ ?_
 have hF228:=Qg w.heap.size noX M
 refine Qi ?_
 have ha229:=(rr hcx1)
 refine Qd (Zg Vc rfl (hS.bvB 2 rfl) (Rep.len ha229)) ?_
 obtain ⟨r232,hr231,hz⟩:=Qb hz
 refine Qu (Z4 (vs:=[.agg (sl cx1 (0) 201).toArray]) (v := .bool r232) cb37 (Zu rfl) hS (nodeGood_ok hS.agree ha229 hr231) ?_)
 intro w230 hS
 refine Qd (Ye rfl) <|Qd (Qe (.bool (!r232)) rfl) ?_
 rcases ic hz with ⟨hc233,hz⟩ | ⟨hc233,hz⟩<;>rw [hc233]
 refine Q2 10 rfl ?_
 refine Qf (Qa ?_)
 exact ⟨M,true,hF228,hS,hT_1,rfl,rfl,rfl,rfl,hz⟩
 refine Qk rfl rfl (Qe (.int .i64 x2) hT_1) ?_
 obtain ⟨r236,hr235,hz⟩:=Qb hz
 refine Km rfl rfl (Z4 (vs:=[.int .i64 x2]) (v := .bool r236) cb87 (Zu rfl) hS (nodeIs_ok hS.agree hr235) ?_)
 intro w234 hS
 refine Qk rfl rfl (Ye rfl) <|Q2 2 rfl ?_
 rcases ic hz with ⟨hc237,hz⟩ | ⟨hc237,hz⟩<;>rw [hc237]
 refine Q2 5 rfl ?_
 refine Qf (Qa ?_)
 exact ⟨M,true,hF228,hS,hT_1,rfl,rfl,rfl,rfl,hz⟩
 refine Qk rfl rfl (Qp Ka rfl) <|Qk rfl rfl (Ql (.int .i64 x3.node) Z5 rfl (hS.bvB 1 rfl) (Vg (rr hcx3))) <|Qk rfl rfl (Qe (.int .i64 x2) hT_1) <|Qk rfl rfl (Yp rfl rfl) <|Qd (Ze (.bool (x3.node != x2)) rfl rfl) ?_
 refine Qf (Qa ?_)
 exact ⟨M,(x3.node != x2),hF228,hS,hT_1,rfl,rfl,rfl,rfl,hz⟩
 rintro T220 w218 ⟨M219,c221,hx222,hS,hT220_1,hT220_3,hT220_5,hT220_6,hT220_27,hz⟩
 replace hcx1:=Rep.mono hx222.1 hcx1
 replace zb9:=Rep.mono hx222.1 zb9
 replace hE:=Qc hE hx222
 replace hF217:=Qc hF217 hx222
 rw [nodeTake_j8] at hz
 refine Qr hT220_27 (fun hc223 => ?_) (fun hc223 => ?_)
 replace hz:=Qn hz hc223
 refine Qh <|Qi ?_
 have ha224:=(rr hcx1)
 refine Qd (Zg Vc hT220_3 (hS.bvB 2 rfl) (Rep.len ha224)) ?_
 obtain ⟨d227,hd226,hz⟩:=Qb hz
 refine Qu (Q8 0 201 hS rfl zb9 hT220_6 rfl ha224 rfl rfl (Lf (rr zb9) ha224) hd226 ?_)
 intro cs226 w225 hb226 ha226 hs226 hS
 refine Q2 2 rfl ?_
 refine Qf (Qa ?_)
 cases hz
 exact Q4 (Qs (V9 (j:=0) rfl hT220_6 rfl rfl (by rw [Rep.len hb226];exact Vc) hS rfl (Zj (Qm (Qm (Qm hS))) hE ⟨_,_,rfl,hb226,(Z3 _)⟩)))
 replace hz:=Qo hz hc223
 refine Qv (Qa ?_)
 exact ⟨M219,(Zr.zc GNode),(Zr.zd:GNode),hF217,hS,zb9,hT220_1,hT220_3,hT220_5,hT220_6,hz⟩
 rintro T12 w10 ⟨M11,cs13,d14,hx15,hS,hb13,hT12_1,hT12_3,hT12_5,hT12_6,hz⟩
 replace hcx1:=Rep.mono hx15.1 hcx1
 replace hcx3:=Rep.mono hx15.1 hcx3
 replace hE:=Qc hE hx15
 rw [nodeTake_j1] at hz
 refine Qh <|Qh <|Qi ?_
 have ha16:=(rr hcx3)
 refine Qd (Zg K4 hT12_5 (hS.bvB 1 rfl) (Rep.len ha16)) ?_
 obtain ⟨r19,hr18,hz⟩:=Qb hz
 replace hr18:=Option.some.inj hr18
 refine Qu (Z4 (vs:=[.agg (sl cx3 (0) 7).toArray]) (v := .int .i64 r19) cb80 (Zu rfl) hS (hr18 ▸ (c_good hS.agree ha16)) ?_)
 intro w17 hS
 refine Qd (Qj (.int .i64 r19) rfl) ?_
 refine Qf (Qa ?_)
 refine Qh <|Qi <|Qd (Qe (.int .i64 r19) rfl) <|Qd (Yp rfl rfl) ?_
 refine Qf (Qa ?_)
 refine Qr rfl (fun hc20 => ?_) (fun hc20 => ?_)
 replace hz:=Qn hz hc20
 refine Qh <|Qi ?_
 have ha21:=(rr hcx1)
 refine Qd (Zg Vc hT12_3 (hS.bvB 2 rfl) (Rep.len ha21)) <|Qd (Qe (.int .i64 r19) rfl) ?_
 obtain ⟨d24,hd23,hz⟩:=Qb hz
 refine Qu (Q8 0 201 hS rfl hb13 hT12_6 rfl ha21 rfl rfl (Lf (rr hb13) ha21) hd23 ?_)
 intro cs23 w22 hb23 ha23 hs23 hS
 refine Q2 2 rfl ?_
 refine Qf (Qa ?_)
 cases hz
 exact Q4 (Qs (V9 (j:=0) rfl hT12_6 rfl rfl (by rw [Rep.len hb23];exact Vc) hS rfl (Zj (Qm (Qm (Qm hS))) hE ⟨_,_,rfl,hb23,(Z3 _)⟩)))
 replace hz:=Qo hz hc20
 refine Qv (Qa ?_)
 refine Qh <|Qi <|Qd (Qe (.int .i64 x2) hT12_1) ?_
 obtain ⟨r27,hr26,hz⟩:=Qb hz
 replace hr26:=Option.some.inj hr26
 refine Qu (Z4 (vs:=[.int .i64 x2]) (v := .int .i64 r27) cb72 (Zu rfl) hS (hr26 ▸ (c_of)) ?_)
 intro w25 hS
 refine Qd (Qj (.int .i64 r27) rfl) ?_
 refine Qf (Qa ?_)
 refine Qh <|Qi <|Qd (Qp Yl hT12_5) <|Qd (Ql (.int .i64 x3.id) Z5 rfl (hS.bvB 1 rfl) (Yb (rr hcx3))) <|Qd (Qp Kk hT12_3) ?_
 obtain ⟨u28,hx29,hz⟩:=Qb hz
 obtain ⟨hx29a,hx29b⟩:=Qt hx29
 refine Qd (Za ia31 rfl rfl hx29a hx29b) <|Qd (Qj (.pointer (some ⟨b5,0+0+Int.toNat x3.id*6,none⟩)) rfl) ?_
 refine Qf (Qa ?_)
 refine Qh <|Qh <|Qi <|Qd (Qp Vx hT12_5) <|Qd (Ql (.int .i64 x3.kind) Z5 rfl (hS.bvB 1 rfl) (Y2 (rr hcx3))) ?_
 refine Qf (Qa ?_)
 refine Qy <|Qh <|Qi <|Qd (Yc rfl rfl) <|Qd (Qj (.bool (x3.kind==1)) rfl) ?_
 refine Qf (Qa ?_)
 refine Qr rfl (fun hc30 => ?_) (fun hc30 => ?_)
 replace hz:=Qn hz hc30
 refine Qh <|Qh <|Qi <|Qd (Qp V4 hT12_5) ?_
 obtain ⟨v31,ev31,hv31⟩:=(Y8 (rr hcx3))
 refine Qd (Ql v31 Vn rfl (hS.bvB 1 rfl) ev31) <|Qd (Qe (.int .i64 r27) rfl) ?_
 obtain ⟨r34,hr33,hz⟩:=Qb hz
 replace hr33:=Option.some.inj hr33
 refine Qu (Z4 (vs:=[v31,.int .i64 r27]) (v := .bool r34) cb71 (Ya rfl rfl) hS (hr33 ▸ (Jb hS.agree hv31)) ?_)
 intro w32 hS
 refine Qd (Ye rfl) ?_
 refine Qf (Qa ?_)
 refine Qr rfl (fun hc35 => ?_) (fun hc35 => ?_)
 replace hz:=Qn hz hc35
 refine Qh <|Qi ?_
 have ha36:=(rr hcx1)
 refine Qd (Zg Vc hT12_3 (hS.bvB 2 rfl) (Rep.len ha36)) ?_
 obtain ⟨d39,hd38,hz⟩:=Qb hz
 refine Qu (Q8 0 201 hS rfl hb13 hT12_6 rfl ha36 rfl rfl (Lf (rr hb13) ha36) hd38 ?_)
 intro cs38 w37 hb38 ha38 hs38 hS
 refine Q2 2 rfl ?_
 refine Qf (Qa ?_)
 cases hz
 exact Q4 (Qs (Zi (Qs (V9 (j:=0) rfl hT12_6 rfl rfl (by rw [Rep.len hb38];exact Vc) hS rfl (Zj (Qm (Qm (Qm hS))) hE ⟨_,_,rfl,hb38,(Z3 _)⟩)))))
 replace hz:=Qo hz hc35
 refine Qv (Qa ?_)
 refine Qz (fun T' w' => ∃ M41 cs43 d44,Mm.ext w.heap.size noX M11 M41∧St w noX M41 [.box b9 cs13 34,.box b7 cx3 118,.box b5 cs43 34] w'∧rep M41 cs43 d44∧T' 1 = .int .i64 x2∧T' 3 = .pointer (some ⟨b5,0,none⟩)∧T' 5 = .pointer (some ⟨b7,0,none⟩)∧T' 6 = .pointer (some ⟨b9,0,none⟩)∧T' 11 = .pointer (some ⟨b5,0+0+Int.toNat x3.id*6,none⟩)∧nodeTake_j2 x2 x3 d44=some r) ?_ ?_
 have hF74:=Qg w.heap.size noX M11
 refine Qh <|Qi <|Qd (Qe (.pointer (some ⟨b5,0+0+Int.toNat x3.id*6,none⟩)) rfl) <|Qd (Q6 rfl) <|Qd (Qp Y9 rfl) ?_
 obtain ⟨x75,hx76,hz⟩:=Qb hz
 refine Qd (Ql (.int .i64 x75.state) Z5 rfl (hS.bvB 2 rfl) (Yf (vp (k:=6) rfl rfl (Q5 (rr hcx1)) hx76))) <|Qd (Yc rfl rfl) ?_
 refine Qf (Qa ?_)
 refine Qr rfl (fun hc77 => ?_) (fun hc77 => ?_)
 replace hz:=Qn hz hc77
 refine Yt [.box b7 cx3 118,.box b5 cx1 34] [12] Z6 hS fun w78 hS hG79 hR80=>wy 0 rfl (Qe (.pointer (some ⟨b5,0+0+Int.toNat x3.id*6,none⟩)) rfl) (fun _=>hR80) <|wy 1 rfl (Qp V4 hT12_5) (fun _=>hR80) ?_
 obtain ⟨v81,ev81,hv81⟩:=(Y8 (rr hcx3))
 refine Y6 2 rfl (Ql v81 Vn rfl (Ym 0 rfl) ev81) hR80 ?_
 have ha82:=(rr hcx1)
 refine Y6 3 rfl (Zg Vc hT12_3 (Ym 1 rfl) (Rep.len ha82)) hR80 <|wy 4 rfl (Qp Yl hT12_5) (fun _=>hR80) <|Y6 5 rfl (Ql (.int .i64 x3.id) Z5 rfl (Ym 0 rfl) (Yb (rr hcx3))) hR80 <|wy 6 rfl (Qp V4 hT12_5) (fun _=>hR80) ?_
 obtain ⟨v83,ev83,hv83⟩:=(Y8 (rr hcx3))
 refine Y6 7 rfl (Ql v83 Vn rfl (Ym 0 rfl) ev83) hR80 <|wy 8 rfl (Qe (.int .i64 r27) rfl) (fun _=>hR80) ?_
 obtain ⟨r86,hr85,hz⟩:=Qb hz
 refine w1 9 rfl (Y1 (vs:=[.agg (sl cx1 (0) 201).toArray,.int .i64 x3.id,v83,.int .i64 r27]) (rv:=(fun M' u=>repL M' u r86)) cb88 (args4 rfl rfl rfl rfl) hS (nodeAhead_ok hS.agree ha82 hv83 hr85) ?_)
 intro u85 M85 w84 hx85 hu85 hS
 have f85:repL M85 u85 r86:=hu85
 replace hcx1:=Rep.mono hx85.1 hcx1
 replace hv81:=Qw hx85.1 hv81
 replace hF74:=Qc hF74 hx85
 replace hG79:=Qc hG79 hx85
 refine Yr hS hG79 fun hR87 => ?_
 have k88_0:=GEntry.w0 (Zr.zr:rep M85 (Zr.zc GEntry) (Zr.zd:GEntry)) (ri 1:rep M85 _ _)
 have k88_1:=GEntry.w1 k88_0 (Q1 hv81)
 have k88_2:=GEntry.w2 k88_1 (Q1 f85)
 obtain ⟨d89,hd88,hz⟩:=Qb hz
 obtain ⟨cs88,hf88,ha88⟩ : ∃ cs,fillZ (([(0,1),(1,1),(2,1),(3,1),(4,1),(5,1)]:List (Nat × Nat))[·]?) (Zr.zc GEntry) [(0,.int .i64 1),(1,v81),(2,u85)]=some cs∧rep M85 cs d89:=⟨_,(Zb (Zr.zr:rep M85 (Zr.zc GEntry) (Zr.zd:GEntry)) rfl rfl (Rep.len (ri 1:rep M85 _ _)) (by decide) (Zb k88_0 rfl (Q9 hv81) (Rep.len (Q1 hv81)) (by decide) (Zb k88_1 rfl (Q9 f85) (Rep.len (Q1 f85)) (by decide) Z8))),Z9 (x:=({ state:=1,ops:=x3.ops,first:=r86,deps:=Zr.zd,at_:=Zr.zd,values:=Zr.zd }:GEntry)) k88_2 hd88⟩
 refine wy 10 rfl (Zx [(0,.int .i64 1),(1,v81),(2,u85)] tb30 (Ys rfl (Ys rfl (Ys rfl Vf))) hf88) (fun _=>hR87) <|wy 11 rfl (Q6 rfl) (fun _=>hR87) ?_
 obtain ⟨x92,hx93,hz⟩:=Qb hz
 obtain ⟨a94,hx95,hz⟩:=Qb hz
 obtain ⟨d96,hd91,hz⟩:=Qb hz
 refine w1 12 rfl (Q8 2 6 hS rfl hcx1 rfl rfl ha88 rfl rfl (Yy (rr hcx1) (vu (k:=6) rfl rfl (Q5 (rr hcx1)) (Lf (vp (k:=6) rfl rfl (Q5 (rr hcx1)) hx93) ha88) hx95)) hd91 ?_)
 intro cs91 w90 hb91 ha91 hs91 hS
 refine ⟨nB,?_⟩
 refine wd (Qa ?_)
 exact ⟨M85,cs91,d96,hF74,hS,hb91,hT12_1,hT12_3,hT12_5,hT12_6,rfl,hz⟩
 replace hz:=Qo hz hc77
 refine Qv (Qa ?_)
 exact ⟨M11,cx1,x1,hF74,hS,hcx1,hT12_1,hT12_3,hT12_5,hT12_6,rfl,hz⟩
 rintro T42 w40 ⟨M41,cs43,d44,hx45,hS,hb43,hT42_1,hT42_3,hT42_5,hT42_6,hT42_11,hz⟩
 replace hcx3:=Rep.mono hx45.1 hcx3
 replace hb13:=Rep.mono hx45.1 hb13
 replace hE:=Qc hE hx45
 rw [nodeTake_j2] at hz
 refine Qz (fun T' w' => ∃ M47 cs49 d50 v52 l51 y53,Mm.ext w.heap.size noX M41 M47∧St w noX M47 [.box b9 cs49 34,.box b7 cx3 118,.box b5 cs43 34] w'∧rep M47 cs49 d50∧repL M47 v52 l51∧T' 6 = .pointer (some ⟨b9,0,none⟩)∧T' 7=v52∧T' 8 = .int .i64 y53∧nodeTake_j3 d50 l51 y53=some r) ?_ ?_
 have hF55:=Qg w.heap.size noX M41
 refine Yt [.box b7 cx3 118,.box b5 cs43 34] [] Z6 hS fun w56 hS hG57 hR58 => ?_
 have ha59:=(rr hb43)
 refine Y6 0 rfl (Zg Vc hT42_3 (Ym 1 rfl) (Rep.len ha59)) hR58 <|wy 1 rfl (Qe (.int .i64 x2) hT42_1) (fun _=>hR58) <|wy 2 rfl (Qp Yl hT42_5) (fun _=>hR58) <|Y6 3 rfl (Ql (.int .i64 x3.id) Z5 rfl (Ym 0 rfl) (Yb (rr hcx3))) hR58 <|wy 4 rfl (Qe (.pointer (some ⟨b5,0+0+Int.toNat x3.id*6,none⟩)) hT42_11) (fun _=>hR58) <|wy 5 rfl (Q6 rfl) (fun _=>hR58) <|wy 6 rfl (Qp fa30_2 rfl) (fun _=>hR58) ?_
 obtain ⟨x60,hx61,hz⟩:=Qb hz
 obtain ⟨v62,ev62,hv62⟩:=(Kd (vp (k:=6) rfl rfl (Q5 (rr hb43)) hx61))
 refine Y6 7 rfl (Ql v62 Z2 rfl (Ym 1 rfl) ev62) hR58 ?_
 have k63_0:=Kv (Zr.zr:rep M41 (Zr.zc GFrame) (Zr.zd:GFrame)) (ri 2:rep M41 _ _)
 have k63_1:=Kw k63_0 (ri x2:rep M41 _ _)
 have k63_2:=Kx k63_1 (ri x3.id:rep M41 _ _)
 have k63_3:=GFrame.w4 k63_2 (Q1 hv62)
 obtain ⟨d64,hd63,hz⟩:=Qb hz
 obtain ⟨cs63,hf63,ha63⟩ : ∃ cs,fillZ (([(0,1),(1,1),(2,1),(3,1),(4,1),(5,1),(6,1)]:List (Nat × Nat))[·]?) (Zr.zc GFrame) [(0,.int .i64 2),(1,.int .i64 x2),(2,.int .i64 x3.id),(4,v62)]=some cs∧rep M41 cs d64:=⟨_,(Zb (Zr.zr:rep M41 (Zr.zc GFrame) (Zr.zd:GFrame)) rfl rfl (Rep.len (ri 2:rep M41 _ _)) (by decide) (Zb k63_0 rfl rfl (Rep.len (ri x2:rep M41 _ _)) (by decide) (Zb k63_1 rfl rfl (Rep.len (ri x3.id:rep M41 _ _)) (by decide) (Zb k63_2 rfl (Q9 hv62) (Rep.len (Q1 hv62)) (by decide) Z8)))),Z9 (x:=({ kind:=2,node:=x2,id:=x3.id,ops:=Zr.zd,deps:=x60.first,at_:=Zr.zd,vals:=Zr.zd }:GFrame)) k63_3 hd63⟩
 refine wy 8 rfl (Zx [(0,.int .i64 2),(1,.int .i64 x2),(2,.int .i64 x3.id),(4,v62)] tb118 (Ys rfl (Ys rfl (Ys rfl (Ys rfl Vf)))) hf63) (fun _=>hR58) ?_
 obtain ⟨d69,hd68,hz⟩:=Qb hz
 refine WB_two (i:=9) (j:=10) (by kernel_rfl) rfl rfl (Z0 (α := GFrame) (l:=([d64]:List GFrame)) [.agg cs63.toArray] tl96 (Ys rfl Vf) rfl rfl (by decide) (by decide) (by decide) hS (K5 ha63 Ji) ?_) (Q8 0 201 hS rfl hb13 hT42_6 rfl ha59 rfl rfl (Lf (rr hb13) ha59) hd68 ?_)
 intro v66 M66 w65 hx66 hv66 hS
 replace hb13:=Rep.mono hx66.1 hb13
 replace ha59:=Rep.mono hx66.1 ha59
 replace hF55:=Qc hF55 hx66
 replace hG57:=Qc hG57 hx66
 refine Yr hS hG57 fun hR70 => ?_
 refine w1 10 rfl (Q8 0 201 hS rfl hb13 hT42_6 rfl ha59 rfl rfl (Lf (rr hb13) ha59) hd68 ?_)
 intro cs68 w67 hb68 ha68 hs68 hS
 refine Yr hS hG57 fun hR71=>wy 11 rfl (Qj (v66) rfl) (fun _=>hR71) <|wy 12 rfl (Qj (.int .i64 0) rfl) (fun _=>hR71) ?_
 refine wd (Qa ?_)
 exact ⟨M66,cs68,d69,v66,([d64]:List GFrame),(0:Int),hF55,hS,hb68,hv66,hT42_6,rfl,rfl,hz⟩
 intro cs68 w67 hb68 ha68 hs68 hS
 refine Yr hS hG57 fun hR72 => ?_
 refine w1 9 rfl (Z0 (α := GFrame) (l:=([d64]:List GFrame)) [.agg cs63.toArray] tl96 (Ys rfl Vf) rfl rfl (by decide) (by decide) (by decide) hS (K5 ha63 Ji) ?_)
 intro v66 M66 w65 hx66 hv66 hS
 replace hb68:=Rep.mono hx66.1 hb68
 replace hF55:=Qc hF55 hx66
 replace hG57:=Qc hG57 hx66
 refine Yr hS hG57 fun hR73=>wy 11 rfl (Qj (v66) rfl) (fun _=>hR73) <|wy 12 rfl (Qj (.int .i64 0) rfl) (fun _=>hR73) ?_
 refine wd (Qa ?_)
 exact ⟨M66,cs68,d69,v66,([d64]:List GFrame),(0:Int),hF55,hS,hb68,hv66,hT42_6,rfl,rfl,hz⟩
 rintro T48 w46 ⟨M47,cs49,d50,v52,l51,y53,hx54,hS,hb49,hv52,hT48_6,hT48_7,hT48_8,hz⟩
 replace hE:=Qc hE hx54
 rw [nodeTake_j3] at hz
 cases hz
 exact Q4 (Zi (Qs (V9 (j:=0) rfl hT48_6 hT48_7 hT48_8 (by rw [Rep.len hb49];exact Vc) hS rfl (Zj (Qm (Qm (Qm hS))) hE ⟨_,_,rfl,hb49,hv52⟩))))
 replace hz:=Qo hz hc30
 refine Qh <|Qi <|Qd (Yc rfl rfl) <|Qd (Qj (.bool (x3.kind==3)) rfl) ?_
 refine Qf (Qa ?_)
 refine Qr rfl (fun hc97 => ?_) (fun hc97 => ?_)
 replace hz:=Qn hz hc97
 refine Qz (fun T' w' => ∃ M99 cs101 d102,Mm.ext w.heap.size noX M11 M99∧St w noX M99 [.box b9 cs13 34,.box b7 cx3 118,.box b5 cs101 34] w'∧rep M99 cs101 d102∧T' 1 = .int .i64 x2∧T' 3 = .pointer (some ⟨b5,0,none⟩)∧T' 5 = .pointer (some ⟨b7,0,none⟩)∧T' 6 = .pointer (some ⟨b9,0,none⟩)∧T' 10 = .int .i64 r27∧nodeTake_j4 x2 x3 r27 d102=some r) ?_ ?_
 have hF151:=Qg w.heap.size noX M11
 refine Qh <|Qi <|Qd (Qe (.pointer (some ⟨b5,0+0+Int.toNat x3.id*6,none⟩)) rfl) <|Qd (Q6 rfl) <|Qd (Qp Y9 rfl) ?_
 obtain ⟨x152,hx153,hz⟩:=Qb hz
 refine Qd (Ql (.int .i64 x152.state) Z5 rfl (hS.bvB 2 rfl) (Yf (vp (k:=6) rfl rfl (Q5 (rr hcx1)) hx153))) <|Qd (Zq rfl rfl) ?_
 refine Qf (Qa ?_)
 refine Qr rfl (fun hc154 => ?_) (fun hc154 => ?_)
 replace hz:=Qn hz hc154
 refine Qz (fun T' w' => ∃ M156 cs158 d159,Mm.ext w.heap.size noX M11 M156∧St w noX M156 [.box b9 cs13 34,.box b7 cx3 118,.box b5 cs158 34] w'∧rep M156 cs158 d159∧T' 1 = .int .i64 x2∧T' 3 = .pointer (some ⟨b5,0,none⟩)∧T' 5 = .pointer (some ⟨b7,0,none⟩)∧T' 6 = .pointer (some ⟨b9,0,none⟩)∧T' 10 = .int .i64 r27∧T' 11 = .pointer (some ⟨b5,0+0+Int.toNat x3.id*6,none⟩)∧nodeTake_j7 fu x2 x3 r27 d159=some r) ?_ ?_
 have hF197:=Qg w.heap.size noX M11
 refine Qh <|Qi <|Qd (Qe (.pointer (some ⟨b5,0+0+Int.toNat x3.id*6,none⟩)) rfl) <|Qd (Q6 rfl) <|Qd (Qp Y9 rfl) ?_
 obtain ⟨x198,hx199,hz⟩:=Qb hz
 refine Qd (Ql (.int .i64 x198.state) Z5 rfl (hS.bvB 2 rfl) (Yf (vp (k:=6) rfl rfl (Q5 (rr hcx1)) hx199))) <|Qd (Yc rfl rfl) ?_
 refine Qf (Qa ?_)
 refine Qr rfl (fun hc200 => ?_) (fun hc200 => ?_)
 replace hz:=Qn hz hc200
 refine Qi <|Qd (Qe (.pointer (some ⟨b5,0+0+Int.toNat x3.id*6,none⟩)) rfl) ?_
 have ha201:=(rr hcx1)
 refine Qd (Zg Vc hT12_3 (hS.bvB 2 rfl) (Rep.len ha201)) <|Qd (Qp Yl hT12_5) <|Qd (Ql (.int .i64 x3.id) Z5 rfl (hS.bvB 1 rfl) (Yb (rr hcx3))) <|Qd (Qp V4 hT12_5) ?_
 obtain ⟨v202,ev202,hv202⟩:=(Y8 (rr hcx3))
 refine Qd (Ql v202 Vn rfl (hS.bvB 1 rfl) ev202) <|Qd (Qe (.int .i64 r27) rfl) ?_
 obtain ⟨r205,hr204,hz⟩:=Qb hz
 refine Qu (Y1 (vs:=[.agg (sl cx1 (0) 201).toArray,.int .i64 x3.id,v202,.int .i64 r27]) (rv:=(fun M' u=>repL M' u r205)) cb88 (args4 rfl rfl rfl rfl) hS (nodeAhead_ok hS.agree ha201 hv202 hr204) ?_)
 intro u204 M204 w203 hx204 hu204 hS
 have f204:repL M204 u204 r205:=hu204
 replace hcx1:=Rep.mono hx204.1 hcx1
 replace hF197:=Qc hF197 hx204
 refine Qd (Q6 rfl) <|Qd (Qp fa30_2 rfl) ?_
 obtain ⟨x208,hx209,hz⟩:=Qb hz
 obtain ⟨a210,hx211,hz⟩:=Qb hz
 obtain ⟨d212,hd207,hz⟩:=Qb hz
 refine Qu (Q8 2 1 hS rfl hcx1 rfl rfl (Q1 f204) (Q9 f204) rfl (Yy (rr hcx1) (vu (k:=6) rfl rfl (Q5 (rr hcx1)) (GEntry.u2 (vp (k:=6) rfl rfl (Q5 (rr hcx1)) hx209) (Lf (Kd (vp (k:=6) rfl rfl (Q5 (rr hcx1)) hx209)) (Q1 f204))) hx211)) hd207 ?_)
 intro cs207 w206 hb207 ha207 hs207 hS
 refine Qf (Qa ?_)
 exact ⟨M204,cs207,d212,hF197,hS,hb207,hT12_1,hT12_3,hT12_5,hT12_6,rfl,rfl,hz⟩
 replace hz:=Qo hz hc200
 refine Qv (Qa ?_)
 exact ⟨M11,cx1,x1,hF197,hS,hcx1,hT12_1,hT12_3,hT12_5,hT12_6,rfl,rfl,hz⟩
 rintro T157 w155 ⟨M156,cs158,d159,hx160,hS,hb158,hT157_1,hT157_3,hT157_5,hT157_6,hT157_10,hT157_11,hz⟩
 replace hcx3:=Rep.mono hx160.1 hcx3
 rw [nodeTake_j7] at hz
 refine Qh <|Yt [.box b7 cx3 118] [] Z6 hS fun w161 hS hG162 hR163=>wy 0 rfl (Qe (.pointer (some ⟨b5,0+0+Int.toNat x3.id*6,none⟩)) hT157_11) (fun _=>hR163) <|wy 1 rfl (Qe (.pointer (some ⟨b5,0+0+Int.toNat x3.id*6,none⟩)) hT157_11) (fun _=>hR163) <|wy 2 rfl (Qe (.pointer (some ⟨b5,0+0+Int.toNat x3.id*6,none⟩)) hT157_11) (fun _=>hR163) <|wy 3 rfl (Qp V4 hT157_5) (fun _=>hR163) ?_
 obtain ⟨v164,ev164,hv164⟩:=(Y8 (rr hcx3))
 refine Y6 4 rfl (Ql v164 Vn rfl (Ym 0 rfl) ev164) hR163 <|wy 5 rfl (Qp Y5 hT157_5) (fun _=>hR163) ?_
 obtain ⟨v165,ev165,hv165⟩:=(Yi (rr hcx3))
 refine Y6 6 rfl (Ql v165 Z2 rfl (Ym 0 rfl) ev165) hR163 <|wy 7 rfl (Q6 rfl) (fun _=>hR163) <|wy 8 rfl (Qp Y9 rfl) (fun _=>hR163) ?_
 obtain ⟨x168,hx169,hz⟩:=Qb hz
 obtain ⟨a170,hx171,hz⟩:=Qb hz
 obtain ⟨d172,hd167,hz⟩:=Qb hz
 refine w1 9 rfl (Q8 2 1 hS rfl hb158 rfl rfl (ri 2:rep M156 _ _) rfl rfl (Yy (rr hb158) (vu (k:=6) rfl rfl (Q5 (rr hb158)) (GEntry.u0 (vp (k:=6) rfl rfl (Q5 (rr hb158)) hx169) (Lf (Yf (vp (k:=6) rfl rfl (Q5 (rr hb158)) hx169)) (ri 2:rep M156 _ _))) hx171)) hd167 ?_)
 intro cs167 w166 hb167 ha167 hs167 hS
 refine Yr hS hG162 fun hR173=>wy 10 rfl (Q6 rfl) (fun _=>hR173) <|wy 11 rfl (Qp K8 rfl) (fun _=>hR173) ?_
 obtain ⟨x176,hx177,hz⟩:=Qb hz
 obtain ⟨a178,hx179,hz⟩:=Qb hz
 obtain ⟨d180,hd175,hz⟩:=Qb hz
 refine w1 12 rfl (Q8 2 1 hS rfl hb167 rfl rfl (Q1 hv164) (Q9 hv164) rfl (Yy (rr hb167) (vu (k:=6) rfl rfl (Q5 (rr hb167)) (GEntry.u1 (vp (k:=6) rfl rfl (Q5 (rr hb167)) hx177) (Lf (Vt (vp (k:=6) rfl rfl (Q5 (rr hb167)) hx177)) (Q1 hv164))) hx179)) hd175 ?_)
 intro cs175 w174 hb175 ha175 hs175 hS
 refine Yr hS hG162 fun hR181=>wy 13 rfl (Q6 rfl) (fun _=>hR181) <|wy 14 rfl (Qp Jn rfl) (fun _=>hR181) ?_
 obtain ⟨x184,hx185,hz⟩:=Qb hz
 obtain ⟨a186,hx187,hz⟩:=Qb hz
 obtain ⟨d188,hd183,hz⟩:=Qb hz
 refine w1 15 rfl (Q8 2 1 hS rfl hb175 rfl rfl (Q1 hv165) (Q9 hv165) rfl (Yy (rr hb175) (vu (k:=6) rfl rfl (Q5 (rr hb175)) (GEntry.u3 (vp (k:=6) rfl rfl (Q5 (rr hb175)) hx185) (Lf (V2 (vp (k:=6) rfl rfl (Q5 (rr hb175)) hx185)) (Q1 hv165))) hx187)) hd183 ?_)
 intro cs183 w182 hb183 ha183 hs183 hS
 refine Yr hS hG162 fun hR189 => ?_
 refine wd (Qa ?_)
 refine Qi ?_
 have ha190:=(rr hb183)
 refine Qd (Zg Vc hT157_3 (hS.bvB 2 rfl) (Rep.len ha190)) <|Qd (Qe (.int .i64 r27) hT157_10) ?_
 obtain ⟨r193,hr192,hz⟩:=Qb hz
 refine Qu (Y1 (vs:=[.agg (sl cs183 (0) 201).toArray,.int .i64 r27]) (rv:=(fun M' u => ∃ cs,u = .agg cs.toArray∧rep M' cs r193)) cb89 (Ya rfl rfl) hS (nodeExec_ok hS.agree ha190 hr192) ?_)
 intro u192 M192 w191 hx192 hu192 hS
 obtain ⟨c192,hq192,f192⟩:=hu192
 subst hq192
 replace hb183:=Rep.mono hx192.1 hb183
 replace hF151:=Qc hF151 (hx160.trans hx192)
 obtain ⟨d196,hd195,hz⟩:=Qb hz
 refine Qu (Q8 2 201 hS rfl hb183 hT157_3 rfl f192 rfl rfl (Lf (rr hb183) f192) hd195 ?_)
 intro cs195 w194 hb195 ha195 hs195 hS
 refine Qf (Qa ?_)
 exact ⟨M192,cs195,d196,hF151,hS,hb195,hT157_1,hT157_3,hT157_5,hT157_6,hT157_10,hz⟩
 replace hz:=Qo hz hc154
 refine Qv (Qa ?_)
 exact ⟨M11,cx1,x1,hF151,hS,hcx1,hT12_1,hT12_3,hT12_5,hT12_6,rfl,hz⟩
 rintro T100 w98 ⟨M99,cs101,d102,hx103,hS,hb101,hT100_1,hT100_3,hT100_5,hT100_6,hT100_10,hz⟩
 replace hcx3:=Rep.mono hx103.1 hcx3
 rw [nodeTake_j4] at hz
 refine Qh <|Qi <|Qd (Qe (.int .i64 x2) hT100_1) <|Qd (Qp Yl hT100_5) <|Qd (Ql (.int .i64 x3.id) Z5 rfl (hS.bvB 1 rfl) (Yb (rr hcx3))) ?_
 have k104_0:=Kv (Zr.zr:rep M99 (Zr.zc GFrame) (Zr.zd:GFrame)) (ri 4:rep M99 _ _)
 have k104_1:=Kw k104_0 (ri x2:rep M99 _ _)
 have k104_2:=Kx k104_1 (ri x3.id:rep M99 _ _)
 obtain ⟨d105,hd104,hz⟩:=Qb hz
 obtain ⟨cs104,hf104,ha104⟩ : ∃ cs,fillZ (([(0,1),(1,1),(2,1),(3,1),(4,1),(5,1),(6,1)]:List (Nat × Nat))[·]?) (Zr.zc GFrame) [(0,.int .i64 4),(1,.int .i64 x2),(2,.int .i64 x3.id)]=some cs∧rep M99 cs d105:=⟨_,(Zb (Zr.zr:rep M99 (Zr.zc GFrame) (Zr.zd:GFrame)) rfl rfl (Rep.len (ri 4:rep M99 _ _)) (by decide) (Zb k104_0 rfl rfl (Rep.len (ri x2:rep M99 _ _)) (by decide) (Zb k104_1 rfl rfl (Rep.len (ri x3.id:rep M99 _ _)) (by decide) Z8))),Z9 (x:=({ kind:=4,node:=x2,id:=x3.id,ops:=Zr.zd,deps:=Zr.zd,at_:=Zr.zd,vals:=Zr.zd }:GFrame)) k104_2 hd104⟩
 refine Qd (Zx [(0,.int .i64 4),(1,.int .i64 x2),(2,.int .i64 x3.id)] tb118 (Ys rfl (Ys rfl (Ys rfl Vf))) hf104) ?_
 refine Qu (O_bsliceR (α := GFrame) (l:=([d105]:List GFrame)) [.agg cs104.toArray] tp96 (Ys rfl Vf) rfl rfl (by decide) (by decide) (by decide) hS (K5 ha104 Ji) ?_)
 intro v107 M107 w106 hx107 hv107 hS
 replace hcx3:=Rep.mono hx107.1 hcx3
 replace hb13:=Rep.mono (hx103.1.trans hx107.1) hb13
 replace hb101:=Rep.mono hx107.1 hb101
 replace hE:=Qc hE (hx103.trans hx107)
 refine Qd (Qj (v107) rfl) ?_
 refine Qf (Qa ?_)
 refine Qz (fun T' w' => ∃ M110 v113 l112,Mm.ext w.heap.size noX M107 M110∧St w noX M110 [.row v113 118 7,.box b9 cs13 34,.box b7 cx3 118,.box b5 cs101 34] w'∧repL M110 v113 l112∧T' 3 = .pointer (some ⟨b5,0,none⟩)∧T' 6 = .pointer (some ⟨b9,0,none⟩)∧T' 12=v113∧nodeTake_j5 d102 l112=some r) ?_ ?_
 have hF119:=Qg w.heap.size noX M107
 refine Qh <|Qi <|Qd (Qp Yl hT100_5) <|Qd (Ql (.int .i64 x3.id) Z5 rfl (hS.bvB 2 rfl) (Yb (rr hcx3))) <|Qd (Qp Kk hT100_3) ?_
 obtain ⟨u120,hx121,hz⟩:=Qb hz
 obtain ⟨hx121a,hx121b⟩:=Qt hx121
 refine Qd (Za ia31 rfl rfl hx121a hx121b) ?_
 obtain ⟨x122,hx123,hz⟩:=Qb hz
 have ha124:=(vp (k:=6) rfl rfl (Q5 (rr hb101)) hx123)
 refine Qd (Zg ta30 rfl (hS.bvB 3 rfl) (Rep.len ha124)) ?_
 refine Qu (Zf tz30 hS ?_)
 intro b126 w125 hb126 hS
 have zb126:rep M107 (Zr.zc GEntry) (Zr.zd:GEntry):=Zr.zr
 obtain ⟨d129,hd128,hz⟩:=Qb hz
 refine Qu (Q8 0 6 hS rfl zb126 rfl rfl ha124 rfl rfl (Lf (rr zb126) ha124) hd128 ?_)
 intro cs128 w127 hb128 ha128 hs128 hS
 refine Qf (Qa ?_)
 refine Qz (fun T' w' => ∃ M131 c133,Mm.ext w.heap.size noX M107 M131∧St w noX M131 [.box b126 cs128 30,.row v107 118 7,.box b9 cs13 34,.box b7 cx3 118,.box b5 cs101 34] w'∧T' 1 = .int .i64 x2∧T' 3 = .pointer (some ⟨b5,0,none⟩)∧T' 5 = .pointer (some ⟨b7,0,none⟩)∧T' 6 = .pointer (some ⟨b9,0,none⟩)∧T' 12=v107∧T' 13 = .pointer (some ⟨b126,0,none⟩)∧T' 134 = .bool c133∧nodeTake_j6 x2 x3 d102 d105 d129 c133=some r) ?_ ?_
 have hF145:=Qg w.heap.size noX M107
 refine Qi <|Qd (Qp Y9 rfl) <|Qd (Ql (.int .i64 d129.state) Z5 rfl (hS.bvB 0 rfl) (Yf (rr hb128))) <|Qd (Yc rfl rfl) <|Qd (Qe (.bool (d129.state==3)) rfl) ?_
 rcases ic hz with ⟨hc146,hz⟩ | ⟨hc146,hz⟩<;>rw [hc146]
 refine Qk rfl rfl (Qp K8 rfl) ?_
 obtain ⟨v147,ev147,hv147⟩:=(Vt (rr hb128))
 refine Qk rfl rfl (Ql v147 Vn rfl (hS.bvB 0 rfl) ev147) <|Qk rfl rfl (Qe (.int .i64 r27) hT100_10) ?_
 obtain ⟨r150,hr149,hz⟩:=Qb hz
 replace hr149:=Option.some.inj hr149
 refine Km rfl rfl (Z4 (vs:=[v147,.int .i64 r27]) (v := .bool r150) cb71 (Ya rfl rfl) hS (hr149 ▸ (Jb hS.agree hv147)) ?_)
 intro w148 hS
 refine Qd (Zp (.bool r150) rfl rfl) ?_
 refine Qf (Qa ?_)
 exact ⟨M107,r150,hF145,hS,hT100_1,hT100_3,hT100_5,hT100_6,rfl,rfl,rfl,hz⟩
 refine Q2 5 rfl ?_
 refine Qf (Qa ?_)
 exact ⟨M107,false,hF145,hS,hT100_1,hT100_3,hT100_5,hT100_6,rfl,rfl,rfl,hz⟩
 rintro T132 w130 ⟨M131,c133,hx134,hS,hT132_1,hT132_3,hT132_5,hT132_6,hT132_12,hT132_13,hT132_134,hz⟩
 replace hcx3:=Rep.mono hx134.1 hcx3
 replace hv107:=Qw hx134.1 hv107
 replace hb128:=Rep.mono hx134.1 hb128
 replace hF119:=Qc hF119 hx134
 rw [nodeTake_j6] at hz
 refine Qr hT132_134 (fun hc135 => ?_) (fun hc135 => ?_)
 replace hz:=Qn hz hc135
 refine Qi <|Qd (Qe (v107) hT132_12) <|Qd (Qe (.int .i64 x2) hT132_1) <|Qd (Qp Yl hT132_5) <|Qd (Ql (.int .i64 x3.id) Z5 rfl (hS.bvB 3 rfl) (Yb (rr hcx3))) <|Qd (Qp Vp hT132_13) ?_
 obtain ⟨v136,ev136,hv136⟩:=(Yh (rr hb128))
 refine Qd (Ql v136 Z2 rfl (hS.bvB 0 rfl) ev136) <|Qd (Qp V8 hT132_13) ?_
 obtain ⟨v137,ev137,hv137⟩:=(Yv (rr hb128))
 refine Qd (Ql v137 Z2 rfl (hS.bvB 0 rfl) ev137) ?_
 have k138_0:=Kv (Zr.zr:rep M131 (Zr.zc GFrame) (Zr.zd:GFrame)) (ri 5:rep M131 _ _)
 have k138_1:=Kw k138_0 (ri x2:rep M131 _ _)
 have k138_2:=Kx k138_1 (ri x3.id:rep M131 _ _)
 have k138_3:=GFrame.w5 k138_2 (Q1 hv136)
 have k138_4:=GFrame.w6 k138_3 (Q1 hv137)
 obtain ⟨d139,hd138,hz⟩:=Qb hz
 obtain ⟨cs138,hf138,ha138⟩ : ∃ cs,fillZ (([(0,1),(1,1),(2,1),(3,1),(4,1),(5,1),(6,1)]:List (Nat × Nat))[·]?) (Zr.zc GFrame) [(0,.int .i64 5),(1,.int .i64 x2),(2,.int .i64 x3.id),(5,v136),(6,v137)]=some cs∧rep M131 cs d139:=⟨_,(Zb (Zr.zr:rep M131 (Zr.zc GFrame) (Zr.zd:GFrame)) rfl rfl (Rep.len (ri 5:rep M131 _ _)) (by decide) (Zb k138_0 rfl rfl (Rep.len (ri x2:rep M131 _ _)) (by decide) (Zb k138_1 rfl rfl (Rep.len (ri x3.id:rep M131 _ _)) (by decide) (Zb k138_2 rfl (Q9 hv136) (Rep.len (Q1 hv136)) (by decide) (Zb k138_3 rfl (Q9 hv137) (Rep.len (Q1 hv137)) (by decide) Z8))))),Z9 (x:=({ kind:=5,node:=x2,id:=x3.id,ops:=Zr.zd,deps:=Zr.zd,at_:=d129.at_,vals:=d129.values }:GFrame)) k138_4 hd138⟩
 refine Qd (Zx [(0,.int .i64 5),(1,.int .i64 x2),(2,.int .i64 x3.id),(5,v136),(6,v137)] tb118 (Ys rfl (Ys rfl (Ys rfl (Ys rfl (Ys rfl Vf))))) hf138) ?_
 refine Qu (Z0 (α := GFrame) (l:=([d139]:List GFrame)) [.agg cs138.toArray] tl96 (Ys rfl Vf) rfl rfl (by decide) (by decide) (by decide) hS (K5 ha138 Ji) ?_)
 intro v141 M141 w140 hx141 hv141 hS
 replace hv107:=Qw hx141.1 hv107
 obtain ⟨l144,hr143,hz⟩:=Qb hz
 obtain ⟨hy143,hs143⟩:=Z1 hr143
 refine Qu (Y3 (α := GFrame) (j:=1) tp96 hS rfl rfl rfl hv107 hv141 hy143 ?_)
 intro v143 M143 w142 hx143 hv143 hS
 rw [← hs143] at hv143
 clear hr143 hs143
 replace hF119:=Qc hF119 (hx141.trans hx143)
 refine Qd (Qj (v143) rfl) ?_
 refine Qf (Qa ?_)
 exact ⟨M143,v143,l144,hF119,(Yk hS hb126),hv143,hT132_3,hT132_6,rfl,hz⟩
 replace hz:=Qo hz hc135
 refine Qv (Qa ?_)
 exact ⟨M131,v107,([d105]:List GFrame),hF119,(Yk hS hb126),hv107,hT132_3,hT132_6,hT132_12,hz⟩
 rintro T111 w109 ⟨M110,v113,l112,hx114,hS,hv113,hT111_3,hT111_6,hT111_12,hz⟩
 replace hb13:=Rep.mono hx114.1 hb13
 replace hb101:=Rep.mono hx114.1 hb101
 replace hE:=Qc hE hx114
 rw [nodeTake_j5] at hz
 refine Qh <|Qi ?_
 have ha115:=(rr hb101)
 refine Qd (Zg Vc hT111_3 (hS.bvB 3 rfl) (Rep.len ha115)) <|Qd (Qe (v113) hT111_12) ?_
 obtain ⟨d118,hd117,hz⟩:=Qb hz
 refine Qu (Q8 1 201 hS rfl hb13 hT111_6 rfl ha115 rfl rfl (Lf (rr hb13) ha115) hd117 ?_)
 intro cs117 w116 hb117 ha117 hs117 hS
 refine Q2 2 rfl ?_
 refine Qf (Qa ?_)
 cases hz
 exact Q4 (Zi (Qs (V9 (j:=1) rfl hT111_6 rfl rfl (by rw [Rep.len hb117];exact Vc) hS rfl (Zj (Qm (Qm (Qm (Qm hS)))) hE ⟨_,_,rfl,hb117,hv113⟩))))
 replace hz:=Qo hz hc97
 refine Qv (Q7 ?_)
 refine (Qa ?_)
 refine Qh <|Qi ?_
 have ha213:=(rr hcx1)
 refine Qd (Zg Vc hT12_3 (hS.bvB 2 rfl) (Rep.len ha213)) ?_
 obtain ⟨d216,hd215,hz⟩:=Qb hz
 refine Qu (Q8 0 201 hS rfl hb13 hT12_6 rfl ha213 rfl rfl (Lf (rr hb13) ha213) hd215 ?_)
 intro cs215 w214 hb215 ha215 hs215 hS
 refine Q2 2 rfl ?_
 refine Qf (Qa ?_)
 cases hz
 exact Q4 (V9 (j:=0) rfl hT12_6 rfl rfl (by rw [Rep.len hb215];exact Vc) hS rfl (Zj (Qm (Qm (Qm hS))) hE ⟨_,_,rfl,hb215,(Z3 _)⟩))
end Go.Proofs.Yteilffoclpgijaa
namespace Go.Proofs.Yteilffoclpgijaa
open Go.RowKit
open Rep (rep)
set_option linter.unusedVariables false
abbrev K1 := @GReader.p0
abbrev K2 := @GReader.p1
abbrev Ke := @chkS_some
abbrev V0 := @rep_str
def rByteD (fu:Nat) (x1:GReader):Option (Int × GReader) :=
 (bif x1.s.toList==(⟨#[]⟩:ByteArray).toList then
 (some ({ x1 with bad:=true }:GReader)).bind fun d5 =>
 some (0,d5)
 else
 (idxS x1.s 0).bind fun c6 =>
 (cutB x1.s (some 1) none).bind fun s9 =>
 (chkS s9).bind fun _ =>
 (some ({ x1 with s:=s9 }:GReader)).bind fun d13 =>
 some (IntKind.wrap .i64 c6,d13))
set_option maxRecDepth 100000 in
set_option maxHeartbeats 4000000 in
theorem rByte_ok {M:Mm} {w:World} {bx1:Nat} {cx1:List Value} {x1:GReader} {fu:Nat} {r:Int × GReader} (hS:St w (lentX [.box bx1 cx1 136]) M [.box bx1 cx1 136] w) (hcx1:rep M cx1 x1) (hz:rByteD fu x1=some r) :
    Calls Try.prog 78 #[.pointer (some ⟨bx1,0,none⟩)] w (GivesL M w [.box bx1 cx1 136] (fun M' u L' => ∃ k0,u = .int .i64 r.1∧L'=[.box bx1 k0 136]∧rep M' k0 r.2)):=by
 refine Zh Try.func78 rfl 27 rfl rfl (by kernel_rfl) fun T hT => ?_
 have hT_0:T 0 = .pointer (some ⟨bx1,0,none⟩):=hT 0
 clear hT
 have hE:=Qg w.heap.size (lentX [.box bx1 cx1 136]) M
 rw [rByteD] at hz
 refine Qh <|Qi <|Qd (Qj (.int .i64 0) rfl) ?_
 refine Qf (Qa ?_)
 refine Qh <|Qh <|Qi <|Qd (Qe (.pointer (some ⟨bx1,0,none⟩)) hT_0) <|Qd (Q6 rfl) <|Qd (Qp fa136_0 rfl) <|Qd (Ql (.string x1.s) ts9 rfl (hS.bvB 0 rfl) (K1 (rr hcx1)).1) <|Qd (Y_eqS rfl rfl) ?_
 refine Qf (Qa ?_)
 refine Qr rfl (fun hc2 => ?_) (fun hc2 => ?_)
 replace hz:=Qn hz hc2
 refine Qh <|Qi <|Qd (Qe (.pointer (some ⟨bx1,0,none⟩)) hT_0) <|Qd (Q6 rfl) <|Qd (Qp fa136_1 rfl) ?_
 obtain ⟨d5,hd4,hz⟩:=Qb hz
 refine Qu (Q8 0 1 hS rfl hcx1 rfl rfl (rb true:rep M _ _) rfl rfl (GReader.u1 (rr hcx1) (Lf (K2 (rr hcx1)) (rb true:rep M _ _))) hd4 ?_)
 intro cs4 w3 hb4 ha4 hs4 hS
 refine Qf (Qa ?_)
 refine Qh <|Qi <|Qd (Qj (.int .i64 0) rfl) ?_
 refine Qf (Qa ?_)
 cases hz
 exact Q4 (Qs (Yj rfl rfl ⟨_,M,_,rfl,hE,(hS.sel (H':=[.box bx1 cs4 136]) [0] (by decide) rfl),cs4,rfl,rfl,hb4⟩))
 replace hz:=Qo hz hc2
 refine Qv (Qa ?_)
 refine Qh <|Qi <|Qd (Qe (.pointer (some ⟨bx1,0,none⟩)) hT_0) <|Qd (Q6 rfl) <|Qd (Qp fa136_0 rfl) <|Qd (Ql (.string x1.s) ts9 rfl (hS.bvB 0 rfl) (K1 (rr hcx1)).1) ?_
 obtain ⟨c6,hx7,hz⟩:=Qb hz
 refine Qd (Y_ixS Zd rfl rfl hx7) <|Qd (Qj (.int .u8 c6) rfl) ?_
 refine Qf (Qa ?_)
 refine Qh <|Qi <|Qd (Qe (.pointer (some ⟨bx1,0,none⟩)) hT_0) <|Qd (Qe (.pointer (some ⟨bx1,0,none⟩)) hT_0) <|Qd (Q6 rfl) <|Qd (Qp fa136_0 rfl) <|Qd (Ql (.string x1.s) ts9 rfl (hS.bvB 0 rfl) (K1 (rr hcx1)).1) ?_
 obtain ⟨s9,hx8,hz⟩:=Qb hz
 obtain ⟨⟨pp8,qq8⟩,hc8,hx8⟩:=Option.map_eq_some_iff.1 hx8
 refine Qd ((hx8 ▸ Y_cutS (l:=(some 1)) (h:=none) Zd rfl (evs rfl) evn hc8)) <|Qd (Q6 rfl) <|Qd (Qp fa136_0 rfl) ?_
 obtain ⟨_,hx11,hz⟩:=Qb hz
 have hx11:=Ke hx11
 obtain ⟨d13,hd12,hz⟩:=Qb hz
 refine Qu (Q8 0 1 hS rfl hcx1 rfl rfl (V0 hx11:rep M [Value.string s9] s9) rfl rfl (GReader.u0 (rr hcx1) (Lf (K1 (rr hcx1)) (V0 hx11:rep M [Value.string s9] s9))) hd12 ?_)
 intro cs12 w10 hb12 ha12 hs12 hS
 refine Qf (Qa ?_)
 refine Qh <|Qi <|Qd (Qe (.int .u8 c6) rfl) <|Qd (Vo ⟨_,Zl⟩ Zo rfl) <|Qd (Qj (.int .i64 (IntKind.wrap .i64 c6)) rfl) ?_
 refine Qf (Qa ?_)
 cases hz
 exact Q4 (Yj rfl rfl ⟨_,M,_,rfl,hE,(hS.sel (H':=[.box bx1 cs12 136]) [0] (by decide) rfl),cs12,rfl,rfl,hb12⟩)
def rNumber_l1 (fu:Nat):Nat→GReader→Int→Int→Option (Int × GReader)
 | 0,_,_,_=>none
 | n+1,d6,y7,y8 =>
 (bif decide (y8<6) then
 (rByteD fu d6).bind fun r16 =>
 (rNumber_l1 fu n) r16.2 (orI .i64 (IntKind.wrap .i64 (y7*2 ^ (min (Int.toNat 8) (IntKind.bits .i64)))) r16.1) (IntKind.wrap .i64 (y8+1))
 else
 some (IntKind.wrap .i64 (y7-140737488355328),d6))
def rNumberD (fu:Nat) (x1:GReader):Option (Int × GReader) :=
 rNumber_l1 fu fu x1 0 0
set_option maxRecDepth 100000 in
set_option maxHeartbeats 4000000 in
theorem rNumber_ok {M:Mm} {w:World} {bx1:Nat} {cx1:List Value} {x1:GReader} {fu:Nat} {r:Int × GReader} (hS:St w (lentX [.box bx1 cx1 136]) M [.box bx1 cx1 136] w) (hcx1:rep M cx1 x1) (hz:rNumberD fu x1=some r) :
    Calls Try.prog 79 #[.pointer (some ⟨bx1,0,none⟩)] w (GivesL M w [.box bx1 cx1 136] (fun M' u L' => ∃ k0,u = .int .i64 r.1∧L'=[.box bx1 k0 136]∧rep M' k0 r.2)):=by
 refine Zh Try.func79 rfl 14 rfl rfl (by kernel_rfl) fun T hT => ?_
 have hT_0:T 0 = .pointer (some ⟨bx1,0,none⟩):=hT 0
 clear hT
 have hE:=Qg w.heap.size (lentX [.box bx1 cx1 136]) M
 rw [rNumberD] at hz
 refine Qh <|Qi <|Qd (Qj (.int .i64 0) rfl) ?_
 refine Qf (Qa ?_)
 refine Qh <|Qi <|Qd (Qj (.int .i64 0) rfl) ?_
 refine Qf (Qa ?_)
 refine Qh <|Qh <|Qi <|Qd (Qe (.int .i64 0) rfl) ?_
 refine Qf (Qa ?_)
 refine Qy ?_
 refine Zy (fun k10 T' w' => ∃ M3 cs5 d6 y7 y8,Mm.ext w.heap.size (lentX [.box bx1 cx1 136]) M M3∧St w (lentX [.box bx1 cx1 136]) M3 [.box bx1 cs5 136] w'∧rep M3 cs5 d6∧T' 0 = .pointer (some ⟨bx1,0,none⟩)∧T' 3 = .int .i64 y7∧T' 4 = .int .i64 y8∧rNumber_l1 fu k10 d6 y7 y8=some r) fu ?_ ?_ ?_
 exact ⟨M,cx1,x1,(0:Int),(0:Int),(Qg _ _ _),hS,hcx1,hT_0,rfl,rfl,hz⟩
 rintro T' w' ⟨_,_,_,_,_,_,_,_,_,_,_,hz⟩
 rw [rNumber_l1] at hz
 cases hz
 intro k10
 rintro T4 w2 ⟨M3,cs5,d6,y7,y8,hx12,hS,hb5,hT4_0,hT4_3,hT4_4,hz⟩
 replace hE:=Qc hE hx12
 have hF11:=hx12
 rw [rNumber_l1] at hz
 obtain ⟨rec9,hrec9⟩ : ∃ f,f=rNumber_l1 fu k10:=⟨_,rfl⟩
 rw [← hrec9] at hz
 refine Qh <|Qi <|Qd (Zq hT4_4 rfl) ?_
 refine Qf (Qa ?_)
 refine Qh ?_
 refine Qr rfl (fun hc13 => ?_) (fun hc13 => ?_)
 replace hz:=Qn hz hc13
 refine Qv (Qa ?_)
 refine Qh <|Qy <|Qi <|Qd (Qe (.int .i64 y7) hT4_3) <|Qd (Y_shl rfl rfl (by decide)) <|Qd (Qe (.pointer (some ⟨bx1,0,none⟩)) hT4_0) ?_
 obtain ⟨r16,hr15,hz⟩:=Qb hz
 refine Qu (Zw (vs:=[.pointer (some ⟨bx1,0,none⟩)]) (L:=[.box bx1 cs5 136]) (R:=[]) (rv:=(fun M' u L' => ∃ k0,u = .int .i64 r16.1∧L'=[.box bx1 k0 136]∧rep M' k0 r16.2)) cb78 (Zu rfl) hS (hS.sel [0] (by decide) rfl) (fun hS=>rByte_ok hS hb5 hr15) ?_)
 rintro u15 M15 w14 L15 hx15 ⟨k0_15,rfl,hL15,f15_0⟩ hS
 replace hS:=hS _ hL15
 replace hF11:=Qc hF11 hx15
 refine Qd (Y_or rfl rfl) <|Qd (Qj (.int .i64 (orI .i64 (IntKind.wrap .i64 (y7*2 ^ (min (Int.toNat 8) (IntKind.bits .i64)))) r16.1)) rfl) ?_
 refine Qf (Q7 ?_)
 refine (Qa ?_)
 refine Qi <|Qd (Zz hT4_4 rfl) <|Qd (Qe (.int .i64 (IntKind.wrap .i64 (y8+1))) rfl) ?_
 refine Qf (Qa ?_)
 exact ⟨M15,k0_15,r16.2,(orI .i64 (IntKind.wrap .i64 (y7*2 ^ (min (Int.toNat 8) (IntKind.bits .i64)))) r16.1),(IntKind.wrap .i64 (y8+1)),hF11,hS,f15_0,hT4_0,rfl,rfl,(by rw [← hrec9];exact hz)⟩
 replace hz:=Qo hz hc13
 refine Zs <|Q0 <|Q0 <|Zt ?_
 refine (Qa ?_)
 refine Qh <|Qi <|Qd (Qe (.int .i64 y7) hT4_3) <|Qd (Kf rfl rfl) <|Qd (Qj (.int .i64 (IntKind.wrap .i64 (y7-140737488355328))) rfl) ?_
 refine Qf (Qa ?_)
 cases hz
 exact Q4 (Yj rfl rfl ⟨_,M3,_,rfl,hE,(hS.sel (H':=[.box bx1 cs5 136]) [0] (by decide) rfl),cs5,rfl,rfl,hb5⟩)
def decode_j1 (fu:Nat) (d52:GReader) (d54:GFrame) (y60:Int) (rec61:GReader→GFrame→Int→Option (GFrame × Int)):Option (GFrame × Int) :=
 (rByteD fu d52).bind fun r75 =>
 (rByteD fu r75.2).bind fun r79 =>
 (rNumberD fu r79.2).bind fun r83 =>
 (some ({ kind:=r75.1,key:=r79.1,n:=r83.1 }:GOp)).bind fun d86 =>
 (app d54.ops ([d86]:List GOp)).bind fun l92 =>
 (some ({ d54 with ops:=l92 }:GFrame)).bind fun d96 =>
 rec61 r83.2 d96 (IntKind.wrap .i64 (y60-1))
def decode_j3 (fu:Nat) (d115:GReader) (d117:GFrame) (y123:Int) (rec124:GReader→GFrame→Int→Option (GFrame × Int)):Option (GFrame × Int) :=
 (rByteD fu d115).bind fun r138 =>
 (app d117.deps ([r138.1]:List Int)).bind fun l145 =>
 (some ({ d117 with deps:=l145 }:GFrame)).bind fun d149 =>
 rec124 r138.2 d149 (IntKind.wrap .i64 (y123-1))
def decode_j5 (fu:Nat) (d168:GReader) (d170:GFrame) (y177:Int) (rec178:GReader→GFrame→Int→Option (GFrame × Int)):Option (GFrame × Int) :=
 (rByteD fu d168).bind fun r192 =>
 (app d170.at_ ([r192.1]:List Int)).bind fun l199 =>
 (some ({ d170 with at_:=l199 }:GFrame)).bind fun d203 =>
 (rNumberD fu r192.2).bind fun r214 =>
 (app d203.vals ([r214.1]:List Int)).bind fun l221 =>
 (some ({ d203 with vals:=l221 }:GFrame)).bind fun d225 =>
 rec178 r214.2 d225 (IntKind.wrap .i64 (y177-1))
def decode_j7 (d170:GFrame) (d241:GFrame):Option (GFrame × Int) :=
 (some d170).bind fun d250 =>
 some (d250,0)
def decode_j8 (d170:GFrame) (c259:Bool):Option (GFrame × Int) :=
 (bif c259 then
 (some ({ kind:=Zr.zd,node:=Zr.zd,id:=Zr.zd,ops:=Zr.zd,deps:=Zr.zd,at_:=Zr.zd,vals:=Zr.zd }:GFrame)).bind fun d263 =>
 (some d263).bind fun d274 =>
 some (d274,1)
 else
 decode_j7 d170 (Zr.zd:GFrame))
def decode_j6 (fu:Nat) (d168:GReader) (d170:GFrame) (y177:Int) (rec178:GReader→GFrame→Int→Option (GFrame × Int)) (c234:Bool):Option (GFrame × Int) :=
 (bif c234 then
 decode_j5 fu d168 d170 y177 rec178
 else
 (bif d168.bad then
 decode_j8 d170 true
 else
 (bif !(d168.s.toList==(⟨#[]⟩:ByteArray).toList) then
 decode_j8 d170 true
 else
 (some (frameZ d170)).bind fun r289 =>
 decode_j8 d170 (r289 != 0))))
def decode_l3 (fu:Nat):Nat→GReader→GFrame→Int→Option (GFrame × Int)
 | 0,_,_,_=>none
 | n+1,d168,d170,y177 =>
 (bif decide (y177>0) then
 decode_j6 fu d168 d170 y177 (decode_l3 fu n) (!d168.bad)
 else
 decode_j6 fu d168 d170 y177 (decode_l3 fu n) false)
def decode_j4 (fu:Nat) (d115:GReader) (d117:GFrame) (y123:Int) (rec124:GReader→GFrame→Int→Option (GFrame × Int)) (c158:Bool):Option (GFrame × Int) :=
 (bif c158 then
 decode_j3 fu d115 d117 y123 rec124
 else
 (rByteD fu d115).bind fun r163 =>
 decode_l3 fu fu r163.2 d117 r163.1)
def decode_l2 (fu:Nat):Nat→GReader→GFrame→Int→Option (GFrame × Int)
 | 0,_,_,_=>none
 | n+1,d115,d117,y123 =>
 (bif decide (y123>0) then
 decode_j4 fu d115 d117 y123 (decode_l2 fu n) (!d115.bad)
 else
 decode_j4 fu d115 d117 y123 (decode_l2 fu n) false)
def decode_j2 (fu:Nat) (d52:GReader) (d54:GFrame) (y60:Int) (rec61:GReader→GFrame→Int→Option (GFrame × Int)) (c105:Bool):Option (GFrame × Int) :=
 (bif c105 then
 decode_j1 fu d52 d54 y60 rec61
 else
 (rByteD fu d52).bind fun r110 =>
 decode_l2 fu fu r110.2 d54 r110.1)
def decode_l1 (fu:Nat):Nat→GReader→GFrame→Int→Option (GFrame × Int)
 | 0,_,_,_=>none
 | n+1,d52,d54,y60 =>
 (bif decide (y60>0) then
 decode_j2 fu d52 d54 y60 (decode_l1 fu n) (!d52.bad)
 else
 decode_j2 fu d52 d54 y60 (decode_l1 fu n) false)
def decodeD (fu:Nat) (x1:ByteArray):Option (GFrame × Int) :=
 (chkS x1).bind fun _ =>
 (some ({ s:=x1,bad:=Zr.zd }:GReader)).bind fun d6 =>
 (rByteD fu d6).bind fun r11 =>
 (rByteD fu r11.2).bind fun r14 =>
 (rByteD fu r14.2).bind fun r17 =>
 (some ({ kind:=r11.1,node:=r14.1,id:=r17.1,ops:=Zr.zd,deps:=Zr.zd,at_:=Zr.zd,vals:=Zr.zd }:GFrame)).bind fun d19 =>
 (some d19).bind fun d40 =>
 (rByteD fu r17.2).bind fun r47 =>
 decode_l1 fu fu r47.2 d40 r47.1
set_option maxRecDepth 100000 in
set_option maxHeartbeats 4000000 in
theorem decode_ok {M:Mm} {w:World} {x1:ByteArray} {fu:Nat} {r:GFrame × Int} (hA:Agree M w)  (hz:decodeD fu x1=some r) :
    Calls Try.prog 67 #[.string x1] w (Gives M w (fun M' u => ∃ c0,u = .tuple #[.agg c0.toArray,.int .i64 r.2]∧rep M' c0 r.1)):=by
 refine Zh Try.func67 rfl 109 rfl rfl (by kernel_rfl) fun T hT => ?_
 have hT_0:T 0 = .string x1:=hT 0
 clear hT
 have hE:=Qg w.heap.size noX M
 have hS:St w noX M [] w:=Zv hA
 rw [decodeD] at hz
 refine Qh <|Qi ?_
 refine Qu (Zf tz118 hS ?_)
 intro b3 w2 hb3 hS
 have zb3:rep M (Zr.zc GFrame) (Zr.zd:GFrame):=Zr.zr
 refine Qd (Qj (.int .i64 0) rfl) ?_
 refine Qf (Qa ?_)
 refine Qh <|Qi <|Qd (Qe (.string x1) hT_0) ?_
 obtain ⟨_,hx5,hz⟩:=Qb hz
 have hx5:=Ke hx5
 have k4_0:=GReader.w0 (Zr.zr:rep M (Zr.zc GReader) (Zr.zd:GReader)) (V0 hx5:rep M [Value.string x1] x1)
 obtain ⟨d6,hd4,hz⟩:=Qb hz
 obtain ⟨cs4,hf4,ha4⟩ : ∃ cs,fillZ (([(0,1),(1,1)]:List (Nat × Nat))[·]?) (Zr.zc GReader) [(0,.string x1)]=some cs∧rep M cs d6:=⟨_,(Zb (Zr.zr:rep M (Zr.zc GReader) (Zr.zd:GReader)) rfl rfl (Rep.len (V0 hx5:rep M [Value.string x1] x1)) (by decide) Z8),Z9 (x:=({ s:=x1,bad:=Zr.zd }:GReader)) k4_0 hd4⟩
 refine Qd (Zx [(0,.string x1)] tb136 (Ys rfl Vf) hf4) ?_
 refine Qu (Yo (v := .agg cs4.toArray) (cs:=cs4) rfl rfl hS ?_)
 intro b8 w7 hb8 hS
 refine Qd (Qj (.pointer (some ⟨b8,0,none⟩)) rfl) ?_
 refine Qf (Qa ?_)
 refine Qh <|Qi <|Qd (Qe (.pointer (some ⟨b8,0,none⟩)) rfl) ?_
 obtain ⟨r11,hr10,hz⟩:=Qb hz
 refine Qu (Zw (vs:=[.pointer (some ⟨b8,0,none⟩)]) (L:=[.box b8 cs4 136]) (R:=[.box b3 (Zr.zc GFrame) 118]) (rv:=(fun M' u L' => ∃ k0,u = .int .i64 r11.1∧L'=[.box b8 k0 136]∧rep M' k0 r11.2)) cb78 (Zu rfl) hS (hS.sel [0,1] (by decide) rfl) (fun hS=>rByte_ok hS ha4 hr10) ?_)
 rintro u10 M10 w9 L10 hx10 ⟨k0_10,rfl,hL10,f10_0⟩ hS
 replace hS:=hS _ hL10
 refine Qd (Qe (.pointer (some ⟨b8,0,none⟩)) rfl) ?_
 obtain ⟨r14,hr13,hz⟩:=Qb hz
 refine Qu (Zw (vs:=[.pointer (some ⟨b8,0,none⟩)]) (L:=[.box b8 k0_10 136]) (R:=[.box b3 (Zr.zc GFrame) 118]) (rv:=(fun M' u L' => ∃ k0,u = .int .i64 r14.1∧L'=[.box b8 k0 136]∧rep M' k0 r14.2)) cb78 (Zu rfl) hS (hS.sel [0,1] (by decide) rfl) (fun hS=>rByte_ok hS f10_0 hr13) ?_)
 rintro u13 M13 w12 L13 hx13 ⟨k0_13,rfl,hL13,f13_0⟩ hS
 replace hS:=hS _ hL13
 refine Qd (Qe (.pointer (some ⟨b8,0,none⟩)) rfl) ?_
 obtain ⟨r17,hr16,hz⟩:=Qb hz
 refine Qu (Zw (vs:=[.pointer (some ⟨b8,0,none⟩)]) (L:=[.box b8 k0_13 136]) (R:=[.box b3 (Zr.zc GFrame) 118]) (rv:=(fun M' u L' => ∃ k0,u = .int .i64 r17.1∧L'=[.box b8 k0 136]∧rep M' k0 r17.2)) cb78 (Zu rfl) hS (hS.sel [0,1] (by decide) rfl) (fun hS=>rByte_ok hS f13_0 hr16) ?_)
 rintro u16 M16 w15 L16 hx16 ⟨k0_16,rfl,hL16,f16_0⟩ hS
 replace hS:=hS _ hL16
 have k18_0:=Kv (Zr.zr:rep M16 (Zr.zc GFrame) (Zr.zd:GFrame)) (ri r11.1:rep M16 _ _)
 have k18_1:=Kw k18_0 (ri r14.1:rep M16 _ _)
 have k18_2:=Kx k18_1 (ri r17.1:rep M16 _ _)
 obtain ⟨d19,hd18,hz⟩:=Qb hz
 obtain ⟨cs18,hf18,ha18⟩ : ∃ cs,fillZ (([(0,1),(1,1),(2,1),(3,1),(4,1),(5,1),(6,1)]:List (Nat × Nat))[·]?) (Zr.zc GFrame) [(0,.int .i64 r11.1),(1,.int .i64 r14.1),(2,.int .i64 r17.1)]=some cs∧rep M16 cs d19:=⟨_,(Zb (Zr.zr:rep M16 (Zr.zc GFrame) (Zr.zd:GFrame)) rfl rfl (Rep.len (ri r11.1:rep M16 _ _)) (by decide) (Zb k18_0 rfl rfl (Rep.len (ri r14.1:rep M16 _ _)) (by decide) (Zb k18_1 rfl rfl (Rep.len (ri r17.1:rep M16 _ _)) (by decide) Z8))),Z9 (x:=({ kind:=r11.1,node:=r14.1,id:=r17.1,ops:=Zr.zd,deps:=Zr.zd,at_:=Zr.zd,vals:=Zr.zd }:GFrame)) k18_2 hd18⟩
 have hp20:sl cs18 3 1=[.slice none 0 0]:=(Yx hf18 (by rfl)).trans (by rfl)
 replace hS:=hS.nilRow 65 3
 have hp22:sl cs18 4 1=[.slice none 0 0]:=(Yx hf18 (by rfl)).trans (by rfl)
 replace hS:=hS.nilRow 3 1
 have hp24:sl cs18 5 1=[.slice none 0 0]:=(Yx hf18 (by rfl)).trans (by rfl)
 replace hS:=hS.nilRow 3 1
 have hp26:sl cs18 6 1=[.slice none 0 0]:=(Yx hf18 (by rfl)).trans (by rfl)
 replace hS:=hS.nilRow 3 1
 refine Qd (Zx [(0,.int .i64 r11.1),(1,.int .i64 r14.1),(2,.int .i64 r17.1)] tb118 (Ys rfl (Ys rfl (Ys rfl Vf))) hf18) ?_
 refine Qu (Zf tz118 hS ?_)
 intro b29 w28 hb29 hS
 have zb29:rep M16 (Zr.zc GFrame) (Zr.zd:GFrame):=Zr.zr
 have hp30:sl (Zr.zc GFrame) 3 1=[.slice none 0 0]:=by rfl
 replace hS:=hS.nilRow 65 3
 have hp32:sl (Zr.zc GFrame) 4 1=[.slice none 0 0]:=by rfl
 replace hS:=hS.nilRow 3 1
 have hp34:sl (Zr.zc GFrame) 5 1=[.slice none 0 0]:=by rfl
 replace hS:=hS.nilRow 3 1
 have hp36:sl (Zr.zc GFrame) 6 1=[.slice none 0 0]:=by rfl
 replace hS:=hS.nilRow 3 1
 obtain ⟨d40,hd39,hz⟩:=Qb hz
 refine Qu (Q8 4 7 hS rfl zb29 rfl rfl ha18 rfl rfl (Lf (rr zb29) ha18) hd39 ?_)
 intro cs39 w38 hb39 ha39 hs39 hS
 have hp41:sl cs39 (0+3) 1=[(.slice none 0 0)]:=Kn hs39 hp20 (by decide)
 have hp42:sl cs39 (0+4) 1=[(.slice none 0 0)]:=Kn hs39 hp22 (by decide)
 have hp43:sl cs39 (0+5) 1=[(.slice none 0 0)]:=Kn hs39 hp24 (by decide)
 have hp44:sl cs39 (0+6) 1=[(.slice none 0 0)]:=Kn hs39 hp26 (by decide)
 refine Qf (Qa ?_)
 refine Qh <|Qh <|Qi <|Qd (Qe (.pointer (some ⟨b8,0,none⟩)) rfl) ?_
 obtain ⟨r47,hr46,hz⟩:=Qb hz
 refine Qu (Zw (vs:=[.pointer (some ⟨b8,0,none⟩)]) (L:=[.box b8 k0_16 136]) (R:=[.row (.slice none 0 0) 3 1,.row (.slice none 0 0) 3 1,.row (.slice none 0 0) 3 1,.row (.slice none 0 0) 65 3,.box b29 cs39 118,.row (.slice none 0 0) 3 1,.row (.slice none 0 0) 3 1,.row (.slice none 0 0) 3 1,.row (.slice none 0 0) 65 3,.box b3 (Zr.zc GFrame) 118]) (rv:=(fun M' u L' => ∃ k0,u = .int .i64 r47.1∧L'=[.box b8 k0 136]∧rep M' k0 r47.2)) cb78 (Zu rfl) hS (hS.sel [9,0,1,2,3,4,5,6,7,8,10] (by decide) rfl) (fun hS=>rByte_ok hS f16_0 hr46) ?_)
 rintro u46 M46 w45 L46 hx46 ⟨k0_46,rfl,hL46,f46_0⟩ hS
 replace hS:=hS _ hL46
 replace zb3:=Rep.mono (hx10.1.trans (hx13.1.trans (hx16.1.trans hx46.1))) zb3
 replace hb39:=Rep.mono hx46.1 hb39
 replace hE:=Qc hE (hx10.trans (hx13.trans (hx16.trans hx46)))
 refine Qd (Qj (.int .i64 r47.1) rfl) ?_
 refine Qf (Qa ?_)
 refine Qy ?_
 refine Zy (fun k62 T' w' => ∃ M49 cs51 d52 cs53 d54 v55 y60,Mm.ext w.heap.size noX M46 M49∧St w noX M49 [.box b8 cs51 136,.row (.slice none 0 0) 3 1,.row (.slice none 0 0) 3 1,.row (.slice none 0 0) 3 1,.row (.slice none 0 0) 65 3,.box b29 cs53 118,.row (.slice none 0 0) 3 1,.row (.slice none 0 0) 3 1,.row (.slice none 0 0) 3 1,.row v55 65 3,.box b3 (Zr.zc GFrame) 118] w'∧rep M49 cs51 d52∧rep M49 cs53 d54∧sl cs53 (0+3) 1=[v55]∧sl cs53 (0+4) 1=[(.slice none 0 0)]∧sl cs53 (0+5) 1=[(.slice none 0 0)]∧sl cs53 (0+6) 1=[(.slice none 0 0)]∧T' 2 = .pointer (some ⟨b3,0,none⟩)∧T' 4 = .pointer (some ⟨b8,0,none⟩)∧T' 5 = .pointer (some ⟨b29,0,none⟩)∧T' 6 = .int .i64 y60∧decode_l1 fu k62 d52 d54 y60=some r) fu ?_ ?_ ?_
 exact ⟨M46,k0_46,r47.2,cs39,d40,(.slice none 0 0),r47.1,(Qg _ _ _),hS,f46_0,hb39,hp41,hp42,hp43,hp44,rfl,rfl,rfl,rfl,hz⟩
 rintro T' w' ⟨_,_,_,_,_,_,_,_,_,_,_,_,_,_,_,_,_,_,_,hz⟩
 rw [decode_l1] at hz
 cases hz
 intro k62
 rintro T50 w48 ⟨M49,cs51,d52,cs53,d54,v55,y60,hx64,hS,hb51,hb53,hp56,hp57,hp58,hp59,hT50_2,hT50_4,hT50_5,hT50_6,hz⟩
 replace zb3:=Rep.mono hx64.1 zb3
 replace hE:=Qc hE hx64
 have hF63:=hx64
 rw [decode_l1] at hz
 obtain ⟨rec61,hrec61⟩ : ∃ f,f=decode_l1 fu k62:=⟨_,rfl⟩
 rw [← hrec61] at hz
 refine Qz (fun T' w' => ∃ M66,Mm.ext w.heap.size noX M49 M66∧St w noX M66 [.box b8 cs51 136,.row (.slice none 0 0) 3 1,.row (.slice none 0 0) 3 1,.row (.slice none 0 0) 3 1,.row (.slice none 0 0) 65 3,.box b29 cs53 118,.row (.slice none 0 0) 3 1,.row (.slice none 0 0) 3 1,.row (.slice none 0 0) 3 1,.row v55 65 3,.box b3 (Zr.zc GFrame) 118] w'∧T' 2 = .pointer (some ⟨b3,0,none⟩)∧T' 4 = .pointer (some ⟨b8,0,none⟩)∧T' 5 = .pointer (some ⟨b29,0,none⟩)∧T' 6 = .int .i64 y60∧decode_j1 fu d52 d54 y60 rec61=some r) ?_ ?_
 have hF101:=Qg w.heap.size noX M49
 refine Qz (fun T' w' => ∃ M103 c105,Mm.ext w.heap.size noX M49 M103∧St w noX M103 [.box b8 cs51 136,.row (.slice none 0 0) 3 1,.row (.slice none 0 0) 3 1,.row (.slice none 0 0) 3 1,.row (.slice none 0 0) 65 3,.box b29 cs53 118,.row (.slice none 0 0) 3 1,.row (.slice none 0 0) 3 1,.row (.slice none 0 0) 3 1,.row v55 65 3,.box b3 (Zr.zc GFrame) 118] w'∧T' 2 = .pointer (some ⟨b3,0,none⟩)∧T' 4 = .pointer (some ⟨b8,0,none⟩)∧T' 5 = .pointer (some ⟨b29,0,none⟩)∧T' 6 = .int .i64 y60∧T' 29 = .bool c105∧decode_j2 fu d52 d54 y60 rec61 c105=some r) ?_ ?_
 have hF294:=Qg w.heap.size noX M49
 refine Qi <|Qd (Qe (.int .i64 y60) hT50_6) <|Qd (Yu rfl rfl) <|Qd (Qe (.bool (decide (y60>0))) rfl) ?_
 rcases ic hz with ⟨hc295,hz⟩ | ⟨hc295,hz⟩<;>rw [hc295]
 refine Qk rfl rfl (Qe (.pointer (some ⟨b8,0,none⟩)) hT50_4) <|Qk rfl rfl (Q6 rfl) <|Qk rfl rfl (Qp fa136_1 rfl) <|Qk rfl rfl (Ql (.bool d52.bad) Jk rfl (hS.bvB 0 rfl) (K2 (rr hb51))) <|Qk rfl rfl (Ye rfl) <|Qd (Zp (.bool (!d52.bad)) rfl rfl) ?_
 refine Qf (Qa ?_)
 exact ⟨M49,(!d52.bad),hF294,hS,hT50_2,hT50_4,hT50_5,hT50_6,rfl,hz⟩
 refine Q2 6 rfl ?_
 refine Qf (Qa ?_)
 exact ⟨M49,false,hF294,hS,hT50_2,hT50_4,hT50_5,hT50_6,rfl,hz⟩
 rintro T104 w102 ⟨M103,c105,hx106,hS,hT104_2,hT104_4,hT104_5,hT104_6,hT104_29,hz⟩
 replace zb3:=Rep.mono hx106.1 zb3
 replace hb51:=Rep.mono hx106.1 hb51
 replace hb53:=Rep.mono hx106.1 hb53
 replace hE:=Qc hE hx106
 replace hF101:=Qc hF101 hx106
 rw [decode_j2] at hz
 refine Qr hT104_29 (fun hc107 => ?_) (fun hc107 => ?_)
 replace hz:=Qn hz hc107
 refine Qv (Qa ?_)
 exact ⟨M103,hF101,hS,hT104_2,hT104_4,hT104_5,hT104_6,hz⟩
 replace hz:=Qo hz hc107
 refine Zs <|Q0 <|Q0 <|Zt ?_
 refine (Qa ?_)
 refine Qh <|Qh <|Qi <|Qd (Qe (.pointer (some ⟨b8,0,none⟩)) hT104_4) ?_
 obtain ⟨r110,hr109,hz⟩:=Qb hz
 refine Qu (Zw (vs:=[.pointer (some ⟨b8,0,none⟩)]) (L:=[.box b8 cs51 136]) (R:=[.row (.slice none 0 0) 3 1,.row (.slice none 0 0) 3 1,.row (.slice none 0 0) 3 1,.row (.slice none 0 0) 65 3,.box b29 cs53 118,.row (.slice none 0 0) 3 1,.row (.slice none 0 0) 3 1,.row (.slice none 0 0) 3 1,.row v55 65 3,.box b3 (Zr.zc GFrame) 118]) (rv:=(fun M' u L' => ∃ k0,u = .int .i64 r110.1∧L'=[.box b8 k0 136]∧rep M' k0 r110.2)) cb78 (Zu rfl) hS (hS.sel [0,1,2,3,4,5,6,7,8,9,10] (by decide) rfl) (fun hS=>rByte_ok hS hb51 hr109) ?_)
 rintro u109 M109 w108 L109 hx109 ⟨k0_109,rfl,hL109,f109_0⟩ hS
 replace hS:=hS _ hL109
 replace zb3:=Rep.mono hx109.1 zb3
 replace hb53:=Rep.mono hx109.1 hb53
 replace hE:=Qc hE hx109
 refine Qd (Qj (.int .i64 r110.1) rfl) ?_
 refine Qf (Qa ?_)
 refine Qy ?_
 refine Zy (fun k125 T' w' => ∃ M112 cs114 d115 cs116 d117 v119 y123,Mm.ext w.heap.size noX M109 M112∧St w noX M112 [.box b8 cs114 136,.row (.slice none 0 0) 3 1,.row (.slice none 0 0) 3 1,.row (.slice none 0 0) 3 1,.row (.slice none 0 0) 65 3,.box b29 cs116 118,.row (.slice none 0 0) 3 1,.row (.slice none 0 0) 3 1,.row v119 3 1,.row v55 65 3,.box b3 (Zr.zc GFrame) 118] w'∧rep M112 cs114 d115∧rep M112 cs116 d117∧sl cs116 (0+3) 1=[v55]∧sl cs116 (0+4) 1=[v119]∧sl cs116 (0+5) 1=[(.slice none 0 0)]∧sl cs116 (0+6) 1=[(.slice none 0 0)]∧T' 2 = .pointer (some ⟨b3,0,none⟩)∧T' 4 = .pointer (some ⟨b8,0,none⟩)∧T' 5 = .pointer (some ⟨b29,0,none⟩)∧T' 7 = .int .i64 y123∧decode_l2 fu k125 d115 d117 y123=some r) fu ?_ ?_ ?_
 exact ⟨M109,k0_109,r110.2,cs53,d54,(.slice none 0 0),r110.1,(Qg _ _ _),hS,f109_0,hb53,hp56,hp57,hp58,hp59,hT104_2,hT104_4,hT104_5,rfl,hz⟩
 rintro T' w' ⟨_,_,_,_,_,_,_,_,_,_,_,_,_,_,_,_,_,_,_,hz⟩
 rw [decode_l2] at hz
 cases hz
 intro k125
 rintro T113 w111 ⟨M112,cs114,d115,cs116,d117,v119,y123,hx127,hS,hb114,hb116,hp118,hp120,hp121,hp122,hT113_2,hT113_4,hT113_5,hT113_7,hz⟩
 replace zb3:=Rep.mono hx127.1 zb3
 replace hE:=Qc hE hx127
 have hF126:=hx127
 rw [decode_l2] at hz
 obtain ⟨rec124,hrec124⟩ : ∃ f,f=decode_l2 fu k125:=⟨_,rfl⟩
 rw [← hrec124] at hz
 refine Qz (fun T' w' => ∃ M129,Mm.ext w.heap.size noX M112 M129∧St w noX M129 [.box b8 cs114 136,.row (.slice none 0 0) 3 1,.row (.slice none 0 0) 3 1,.row (.slice none 0 0) 3 1,.row (.slice none 0 0) 65 3,.box b29 cs116 118,.row (.slice none 0 0) 3 1,.row (.slice none 0 0) 3 1,.row v119 3 1,.row v55 65 3,.box b3 (Zr.zc GFrame) 118] w'∧T' 2 = .pointer (some ⟨b3,0,none⟩)∧T' 4 = .pointer (some ⟨b8,0,none⟩)∧T' 5 = .pointer (some ⟨b29,0,none⟩)∧T' 7 = .int .i64 y123∧decode_j3 fu d115 d117 y123 rec124=some r) ?_ ?_
 have hF154:=Qg w.heap.size noX M112
 refine Qz (fun T' w' => ∃ M156 c158,Mm.ext w.heap.size noX M112 M156∧St w noX M156 [.box b8 cs114 136,.row (.slice none 0 0) 3 1,.row (.slice none 0 0) 3 1,.row (.slice none 0 0) 3 1,.row (.slice none 0 0) 65 3,.box b29 cs116 118,.row (.slice none 0 0) 3 1,.row (.slice none 0 0) 3 1,.row v119 3 1,.row v55 65 3,.box b3 (Zr.zc GFrame) 118] w'∧T' 2 = .pointer (some ⟨b3,0,none⟩)∧T' 4 = .pointer (some ⟨b8,0,none⟩)∧T' 5 = .pointer (some ⟨b29,0,none⟩)∧T' 7 = .int .i64 y123∧T' 54 = .bool c158∧decode_j4 fu d115 d117 y123 rec124 c158=some r) ?_ ?_
 have hF292:=Qg w.heap.size noX M112
 refine Qi <|Qd (Qe (.int .i64 y123) hT113_7) <|Qd (Yu rfl rfl) <|Qd (Qe (.bool (decide (y123>0))) rfl) ?_
 rcases ic hz with ⟨hc293,hz⟩ | ⟨hc293,hz⟩<;>rw [hc293]
 refine Qk rfl rfl (Qe (.pointer (some ⟨b8,0,none⟩)) hT113_4) <|Qk rfl rfl (Q6 rfl) <|Qk rfl rfl (Qp fa136_1 rfl) <|Qk rfl rfl (Ql (.bool d115.bad) Jk rfl (hS.bvB 0 rfl) (K2 (rr hb114))) <|Qk rfl rfl (Ye rfl) <|Qd (Zp (.bool (!d115.bad)) rfl rfl) ?_
 refine Qf (Qa ?_)
 exact ⟨M112,(!d115.bad),hF292,hS,hT113_2,hT113_4,hT113_5,hT113_7,rfl,hz⟩
 refine Q2 6 rfl ?_
 refine Qf (Qa ?_)
 exact ⟨M112,false,hF292,hS,hT113_2,hT113_4,hT113_5,hT113_7,rfl,hz⟩
 rintro T157 w155 ⟨M156,c158,hx159,hS,hT157_2,hT157_4,hT157_5,hT157_7,hT157_54,hz⟩
 replace zb3:=Rep.mono hx159.1 zb3
 replace hb114:=Rep.mono hx159.1 hb114
 replace hb116:=Rep.mono hx159.1 hb116
 replace hE:=Qc hE hx159
 replace hF154:=Qc hF154 hx159
 rw [decode_j4] at hz
 refine Qr hT157_54 (fun hc160 => ?_) (fun hc160 => ?_)
 replace hz:=Qn hz hc160
 refine Qv (Qa ?_)
 exact ⟨M156,hF154,hS,hT157_2,hT157_4,hT157_5,hT157_7,hz⟩
 replace hz:=Qo hz hc160
 refine Zs <|Q0 <|Q0 <|Zt ?_
 refine (Qa ?_)
 refine Qh <|Qh <|Qi <|Qd (Qe (.pointer (some ⟨b8,0,none⟩)) hT157_4) ?_
 obtain ⟨r163,hr162,hz⟩:=Qb hz
 refine Qu (Zw (vs:=[.pointer (some ⟨b8,0,none⟩)]) (L:=[.box b8 cs114 136]) (R:=[.row (.slice none 0 0) 3 1,.row (.slice none 0 0) 3 1,.row (.slice none 0 0) 3 1,.row (.slice none 0 0) 65 3,.box b29 cs116 118,.row (.slice none 0 0) 3 1,.row (.slice none 0 0) 3 1,.row v119 3 1,.row v55 65 3,.box b3 (Zr.zc GFrame) 118]) (rv:=(fun M' u L' => ∃ k0,u = .int .i64 r163.1∧L'=[.box b8 k0 136]∧rep M' k0 r163.2)) cb78 (Zu rfl) hS (hS.sel [0,1,2,3,4,5,6,7,8,9,10] (by decide) rfl) (fun hS=>rByte_ok hS hb114 hr162) ?_)
 rintro u162 M162 w161 L162 hx162 ⟨k0_162,rfl,hL162,f162_0⟩ hS
 replace hS:=hS _ hL162
 replace zb3:=Rep.mono hx162.1 zb3
 replace hb116:=Rep.mono hx162.1 hb116
 replace hE:=Qc hE hx162
 refine Qd (Qj (.int .i64 r163.1) rfl) ?_
 refine Qf (Qa ?_)
 refine Qy ?_
 refine Zy (fun k179 T' w' => ∃ M165 cs167 d168 cs169 d170 v173 v175 y177,Mm.ext w.heap.size noX M162 M165∧St w noX M165 [.box b8 cs167 136,.row (.slice none 0 0) 3 1,.row (.slice none 0 0) 3 1,.row (.slice none 0 0) 3 1,.row (.slice none 0 0) 65 3,.box b29 cs169 118,.row v175 3 1,.row v173 3 1,.row v119 3 1,.row v55 65 3,.box b3 (Zr.zc GFrame) 118] w'∧rep M165 cs167 d168∧rep M165 cs169 d170∧sl cs169 (0+3) 1=[v55]∧sl cs169 (0+4) 1=[v119]∧sl cs169 (0+5) 1=[v173]∧sl cs169 (0+6) 1=[v175]∧T' 2 = .pointer (some ⟨b3,0,none⟩)∧T' 4 = .pointer (some ⟨b8,0,none⟩)∧T' 5 = .pointer (some ⟨b29,0,none⟩)∧T' 8 = .int .i64 y177∧decode_l3 fu k179 d168 d170 y177=some r) fu ?_ ?_ ?_
 exact ⟨M162,k0_162,r163.2,cs116,d117,(.slice none 0 0),(.slice none 0 0),r163.1,(Qg _ _ _),hS,f162_0,hb116,hp118,hp120,hp121,hp122,hT157_2,hT157_4,hT157_5,rfl,hz⟩
 rintro T' w' ⟨_,_,_,_,_,_,_,_,_,_,_,_,_,_,_,_,_,_,_,_,hz⟩
 rw [decode_l3] at hz
 cases hz
 intro k179
 rintro T166 w164 ⟨M165,cs167,d168,cs169,d170,v173,v175,y177,hx181,hS,hb167,hb169,hp171,hp172,hp174,hp176,hT166_2,hT166_4,hT166_5,hT166_8,hz⟩
 replace zb3:=Rep.mono hx181.1 zb3
 replace hE:=Qc hE hx181
 have hF180:=hx181
 rw [decode_l3] at hz
 obtain ⟨rec178,hrec178⟩ : ∃ f,f=decode_l3 fu k179:=⟨_,rfl⟩
 rw [← hrec178] at hz
 refine Qz (fun T' w' => ∃ M183,Mm.ext w.heap.size noX M165 M183∧St w noX M183 [.box b8 cs167 136,.row (.slice none 0 0) 3 1,.row (.slice none 0 0) 3 1,.row (.slice none 0 0) 3 1,.row (.slice none 0 0) 65 3,.box b29 cs169 118,.row v175 3 1,.row v173 3 1,.row v119 3 1,.row v55 65 3,.box b3 (Zr.zc GFrame) 118] w'∧T' 2 = .pointer (some ⟨b3,0,none⟩)∧T' 4 = .pointer (some ⟨b8,0,none⟩)∧T' 5 = .pointer (some ⟨b29,0,none⟩)∧T' 8 = .int .i64 y177∧decode_j5 fu d168 d170 y177 rec178=some r) ?_ ?_
 have hF230:=Qg w.heap.size noX M165
 refine Qz (fun T' w' => ∃ M232 c234,Mm.ext w.heap.size noX M165 M232∧St w noX M232 [.box b8 cs167 136,.row (.slice none 0 0) 3 1,.row (.slice none 0 0) 3 1,.row (.slice none 0 0) 3 1,.row (.slice none 0 0) 65 3,.box b29 cs169 118,.row v175 3 1,.row v173 3 1,.row v119 3 1,.row v55 65 3,.box b3 (Zr.zc GFrame) 118] w'∧T' 2 = .pointer (some ⟨b3,0,none⟩)∧T' 4 = .pointer (some ⟨b8,0,none⟩)∧T' 5 = .pointer (some ⟨b29,0,none⟩)∧T' 8 = .int .i64 y177∧T' 74 = .bool c234∧decode_j6 fu d168 d170 y177 rec178 c234=some r) ?_ ?_
 have hF290:=Qg w.heap.size noX M165
 refine Qi <|Qd (Qe (.int .i64 y177) hT166_8) <|Qd (Yu rfl rfl) <|Qd (Qe (.bool (decide (y177>0))) rfl) ?_
 rcases ic hz with ⟨hc291,hz⟩ | ⟨hc291,hz⟩<;>rw [hc291]
 refine Qk rfl rfl (Qe (.pointer (some ⟨b8,0,none⟩)) hT166_4) <|Qk rfl rfl (Q6 rfl) <|Qk rfl rfl (Qp fa136_1 rfl) <|Qk rfl rfl (Ql (.bool d168.bad) Jk rfl (hS.bvB 0 rfl) (K2 (rr hb167))) <|Qk rfl rfl (Ye rfl) <|Qd (Zp (.bool (!d168.bad)) rfl rfl) ?_
 refine Qf (Qa ?_)
 exact ⟨M165,(!d168.bad),hF290,hS,hT166_2,hT166_4,hT166_5,hT166_8,rfl,hz⟩
 refine Q2 6 rfl ?_
 refine Qf (Qa ?_)
 exact ⟨M165,false,hF290,hS,hT166_2,hT166_4,hT166_5,hT166_8,rfl,hz⟩
 rintro T233 w231 ⟨M232,c234,hx235,hS,hT233_2,hT233_4,hT233_5,hT233_8,hT233_74,hz⟩
 replace zb3:=Rep.mono hx235.1 zb3
 replace hb167:=Rep.mono hx235.1 hb167
 replace hb169:=Rep.mono hx235.1 hb169
 replace hE:=Qc hE hx235
 replace hF230:=Qc hF230 hx235
 rw [decode_j6] at hz
 refine Qr hT233_74 (fun hc236 => ?_) (fun hc236 => ?_)
 replace hz:=Qn hz hc236
 refine Qv (Qa ?_)
 exact ⟨M232,hF230,hS,hT233_2,hT233_4,hT233_5,hT233_8,hz⟩
 replace hz:=Qo hz hc236
 refine Zs <|Q0 <|Q0 <|Zt ?_
 refine (Qa ?_)
 refine Qz (fun T' w' => ∃ M238 cs240 d241,Mm.ext w.heap.size noX M232 M238∧St w noX M238 [.box b8 cs167 136,.row (.slice none 0 0) 3 1,.row (.slice none 0 0) 3 1,.row (.slice none 0 0) 3 1,.row (.slice none 0 0) 65 3,.box b29 cs169 118,.row v175 3 1,.row v173 3 1,.row v119 3 1,.row v55 65 3,.box b3 cs240 118] w'∧rep M238 cs240 d241∧T' 2 = .pointer (some ⟨b3,0,none⟩)∧T' 5 = .pointer (some ⟨b29,0,none⟩)∧decode_j7 d170 d241=some r) ?_ ?_
 have hF255:=Qg w.heap.size noX M232
 refine Qz (fun T' w' => ∃ M257 c259,Mm.ext w.heap.size noX M232 M257∧St w noX M257 [.box b8 cs167 136,.row (.slice none 0 0) 3 1,.row (.slice none 0 0) 3 1,.row (.slice none 0 0) 3 1,.row (.slice none 0 0) 65 3,.box b29 cs169 118,.row v175 3 1,.row v173 3 1,.row v119 3 1,.row v55 65 3,.box b3 (Zr.zc GFrame) 118] w'∧T' 2 = .pointer (some ⟨b3,0,none⟩)∧T' 5 = .pointer (some ⟨b29,0,none⟩)∧T' 106 = .bool c259∧decode_j8 d170 c259=some r) ?_ ?_
 have hF279:=Qg w.heap.size noX M232
 refine Qi <|Qd (Qe (.pointer (some ⟨b8,0,none⟩)) hT233_4) <|Qd (Q6 rfl) <|Qd (Qp fa136_1 rfl) <|Qd (Ql (.bool d168.bad) Jk rfl (hS.bvB 0 rfl) (K2 (rr hb167))) <|Qd (Qe (.bool d168.bad) rfl) ?_
 rcases ic hz with ⟨hc280,hz⟩ | ⟨hc280,hz⟩<;>rw [hc280]
 refine Q2 11 rfl ?_
 refine Qf (Qa ?_)
 exact ⟨M232,true,hF279,hS,hT233_2,hT233_5,rfl,hz⟩
 refine Qk rfl rfl (Qe (.pointer (some ⟨b8,0,none⟩)) hT233_4) <|Qk rfl rfl (Q6 rfl) <|Qk rfl rfl (Qp fa136_0 rfl) <|Qk rfl rfl (Ql (.string d168.s) ts9 rfl (hS.bvB 0 rfl) (K1 (rr hb167)).1) <|Qk rfl rfl (Y_neS rfl rfl) <|Q2 2 rfl ?_
 rcases ic hz with ⟨hc281,hz⟩ | ⟨hc281,hz⟩<;>rw [hc281]
 refine Q2 4 rfl ?_
 refine Qf (Qa ?_)
 exact ⟨M232,true,hF279,hS,hT233_2,hT233_5,rfl,hz⟩
 have ha282:=(rr hb169)
 have hp283:sl (sl cs169 (0) 7) 3 1=[v55]:=(Kq (by decide)).trans hp171
 have hp284:sl (sl cs169 (0) 7) 4 1=[v119]:=(Kq (by decide)).trans hp172
 have hp285:sl (sl cs169 (0) 7) 5 1=[v173]:=(Kq (by decide)).trans hp174
 have hp286:sl (sl cs169 (0) 7) 6 1=[v175]:=(Kq (by decide)).trans hp176
 refine Qk rfl rfl (Zg K4 hT233_5 (hS.bvB 5 rfl) (Rep.len ha282)) ?_
 obtain ⟨r289,hr288,hz⟩:=Qb hz
 replace hr288:=Option.some.inj hr288
 refine Km rfl rfl (Z4 (vs:=[.agg (sl cs169 (0) 7).toArray]) (v := .int .i64 r289) cb80 (Zu rfl) hS (hr288 ▸ (c_good hS.agree ha282)) ?_)
 intro w287 hS
 refine Qk rfl rfl (Yp rfl rfl) <|Qd (Ze (.bool (r289 != 0)) rfl rfl) ?_
 refine Qf (Qa ?_)
 exact ⟨M232,(r289 != 0),hF279,hS,hT233_2,hT233_5,rfl,hz⟩
 rintro T258 w256 ⟨M257,c259,hx260,hS,hT258_2,hT258_5,hT258_106,hz⟩
 replace zb3:=Rep.mono hx260.1 zb3
 replace hE:=Qc hE hx260
 replace hF255:=Qc hF255 hx260
 rw [decode_j8] at hz
 refine Qr hT258_106 (fun hc261 => ?_) (fun hc261 => ?_)
 replace hz:=Qn hz hc261
 refine Qh <|Qi ?_
 obtain ⟨d263,hd262,hz⟩:=Qb hz
 obtain ⟨cs262,hf262,ha262⟩ : ∃ cs,fillZ (([(0,1),(1,1),(2,1),(3,1),(4,1),(5,1),(6,1)]:List (Nat × Nat))[·]?) (Zr.zc GFrame) []=some cs∧rep M257 cs d263:=⟨_,Z8,Z9 (x:=({ kind:=Zr.zd,node:=Zr.zd,id:=Zr.zd,ops:=Zr.zd,deps:=Zr.zd,at_:=Zr.zd,vals:=Zr.zd }:GFrame)) (Zr.zr:rep M257 (Zr.zc GFrame) (Zr.zd:GFrame)) hd262⟩
 have hp264:sl cs262 3 1=[.slice none 0 0]:=(Yx hf262 (by rfl)).trans (by rfl)
 replace hS:=hS.nilRow 65 3
 have hp266:sl cs262 4 1=[.slice none 0 0]:=(Yx hf262 (by rfl)).trans (by rfl)
 replace hS:=hS.nilRow 3 1
 have hp268:sl cs262 5 1=[.slice none 0 0]:=(Yx hf262 (by rfl)).trans (by rfl)
 replace hS:=hS.nilRow 3 1
 have hp270:sl cs262 6 1=[.slice none 0 0]:=(Yx hf262 (by rfl)).trans (by rfl)
 replace hS:=hS.nilRow 3 1
 refine Qd (Zx [] tb118 Vf hf262) ?_
 obtain ⟨d274,hd273,hz⟩:=Qb hz
 refine Qu (Q8 14 7 hS rfl zb3 hT258_2 rfl ha262 rfl rfl (Lf (rr zb3) ha262) hd273 ?_)
 intro cs273 w272 hb273 ha273 hs273 hS
 have hp275:sl cs273 (0+3) 1=[(.slice none 0 0)]:=Kn hs273 hp264 (by decide)
 have hp276:sl cs273 (0+4) 1=[(.slice none 0 0)]:=Kn hs273 hp266 (by decide)
 have hp277:sl cs273 (0+5) 1=[(.slice none 0 0)]:=Kn hs273 hp268 (by decide)
 have hp278:sl cs273 (0+6) 1=[(.slice none 0 0)]:=Kn hs273 hp270 (by decide)
 refine Qd (Qj (.int .i64 1) rfl) ?_
 refine Qf (Qa ?_)
 cases hz
 exact Q4 (Qs (R_ct (j:=14) rfl hT258_2 rfl (by rw [Rep.len hb273];exact K4) hS rfl (Zj (Qm (Qm (Qm (Qm (Qm (Qm (Qm (Qm (Qm (Qm (Qm (Qm (Qm (Qm (Qm hS))))))))))))))) hE ⟨_,rfl,hb273⟩)))
 replace hz:=Qo hz hc261
 refine Qv (Qa ?_)
 exact ⟨M257,(Zr.zc GFrame),(Zr.zd:GFrame),hF255,hS,zb3,hT258_2,hT258_5,hz⟩
 rintro T239 w237 ⟨M238,cs240,d241,hx242,hS,hb240,hT239_2,hT239_5,hz⟩
 replace hb169:=Rep.mono hx242.1 hb169
 replace hE:=Qc hE hx242
 rw [decode_j7] at hz
 refine Qh <|Qi ?_
 have ha243:=(rr hb169)
 have hp244:sl (sl cs169 (0) 7) 3 1=[v55]:=(Kq (by decide)).trans hp171
 have hp245:sl (sl cs169 (0) 7) 4 1=[v119]:=(Kq (by decide)).trans hp172
 have hp246:sl (sl cs169 (0) 7) 5 1=[v173]:=(Kq (by decide)).trans hp174
 have hp247:sl (sl cs169 (0) 7) 6 1=[v175]:=(Kq (by decide)).trans hp176
 refine Qd (Zg K4 hT239_5 (hS.bvB 5 rfl) (Rep.len ha243)) ?_
 obtain ⟨d250,hd249,hz⟩:=Qb hz
 refine Qu (Q8 10 7 hS rfl hb240 hT239_2 rfl ha243 rfl rfl (Lf (rr hb240) ha243) hd249 ?_)
 intro cs249 w248 hb249 ha249 hs249 hS
 have hp251:sl cs249 (0+3) 1=[v55]:=Kn hs249 hp244 (by decide)
 have hp252:sl cs249 (0+4) 1=[v119]:=Kn hs249 hp245 (by decide)
 have hp253:sl cs249 (0+5) 1=[v173]:=Kn hs249 hp246 (by decide)
 have hp254:sl cs249 (0+6) 1=[v175]:=Kn hs249 hp247 (by decide)
 refine Qd (Qj (.int .i64 0) rfl) ?_
 refine Qf (Qa ?_)
 cases hz
 exact Q4 (R_ct (j:=10) rfl hT239_2 rfl (by rw [Rep.len hb249];exact K4) hS rfl (Zj (Qm (Qm (Qm (Qm (Qm (Qm (Qm (Qm (Qm (Qm (Qm hS))))))))))) hE ⟨_,rfl,hb249⟩))
 rintro T184 w182 ⟨M183,hx185,hS,hT184_2,hT184_4,hT184_5,hT184_8,hz⟩
 replace hb167:=Rep.mono hx185.1 hb167
 replace hb169:=Rep.mono hx185.1 hb169
 rw [decode_j5] at hz
 refine Qh <|Qy <|Qh <|Yt [.box b29 cs169 118] [7] Z6 hS fun w186 hS hG187 hR188=>wy 0 rfl (Qp Kb hT184_5) (fun _=>hR188) ?_
 obtain ⟨v189,ev189,hv189⟩:=(Vh (rr hb169))
 rw [Vu ev189 hp174] at hv189
 refine Y6 1 rfl (Ql v173 Z2 rfl (Ym 0 rfl) hp174) hR188 <|wy 2 rfl (Qe (.pointer (some ⟨b8,0,none⟩)) hT184_4) (fun _=>hR188) ?_
 obtain ⟨r192,hr191,hz⟩:=Qb hz
 refine w1 3 rfl (Zw (vs:=[.pointer (some ⟨b8,0,none⟩)]) (L:=[.box b8 cs167 136]) (R:=[.row (.slice none 0 0) 3 1,.row (.slice none 0 0) 3 1,.row (.slice none 0 0) 3 1,.row (.slice none 0 0) 65 3,.box b29 cs169 118,.row v175 3 1,.row v173 3 1,.row v119 3 1,.row v55 65 3,.box b3 (Zr.zc GFrame) 118]) (rv:=(fun M' u L' => ∃ k0,u = .int .i64 r192.1∧L'=[.box b8 k0 136]∧rep M' k0 r192.2)) cb78 (Zu rfl) hS (hS.sel [0,1,2,3,4,5,6,7,8,9,10] (by decide) rfl) (fun hS=>rByte_ok hS hb167 hr191) ?_)
 rintro u191 M191 w190 L191 hx191 ⟨k0_191,rfl,hL191,f191_0⟩ hS
 replace hS:=hS _ hL191
 replace hG187:=Qc hG187 hx191
 refine Yr hS hG187 fun hR193 => ?_
 refine w1 4 rfl (Z0 (α := Int) (l:=([r192.1]:List Int)) [.int .i64 r192.1] tl28 (Ys rfl Vf) rfl rfl (by decide) (by decide) (by decide) hS (K5 (ri r192.1:rep M191 _ _) Ji) ?_)
 intro v195 M195 w194 hx195 hv195 hS
 replace hv189:=Qw (hx191.1.trans hx195.1) hv189
 replace hG187:=Qc hG187 hx195
 refine Yr hS hG187 fun hR196 => ?_
 obtain ⟨l199,hr198,hz⟩:=Qb hz
 obtain ⟨hy198,hs198⟩:=Z1 hr198
 refine w1 5 rfl (Y3 (α := Int) (j:=7) Jh hS rfl rfl rfl hv189 hv195 hy198 ?_)
 intro v198 M198 w197 hx198 hv198 hS
 rw [← hs198] at hv198
 clear hr198 hs198
 replace hb169:=Rep.mono (hx191.1.trans (hx195.1.trans hx198.1)) hb169
 replace f191_0:=Rep.mono (hx195.1.trans hx198.1) f191_0
 replace hG187:=Qc hG187 hx198
 refine Yr hS hG187 fun hR200=>wy 6 rfl (Qp Kb hT184_5) (fun _=>hR200) ?_
 obtain ⟨d203,hd202,hz⟩:=Qb hz
 refine w1 7 rfl (Q8 5 1 hS rfl hb169 rfl rfl (Q1 hv198) (Q9 hv198) rfl (GFrame.u5 (rr hb169) (Lf (Vh (rr hb169)) (Q1 hv198))) hd202 ?_)
 intro cs202 w201 hb202 ha202 hs202 hS
 have hp204:=(ha202 (by omega)).trans hp171
 have hp205:=(ha202 (by omega)).trans hp172
 have hp206:=(ha202 (by omega)).trans hp176
 have hp207:=hs202
 refine ⟨nB,?_⟩
 refine wd (Qa ?_)
 refine Yt [.box b29 cs202 118] [7] Z6 hS fun w208 hS hG209 hR210=>wy 0 rfl (Qp Kc hT184_5) (fun _=>hR210) ?_
 obtain ⟨v211,ev211,hv211⟩:=(Vi (rr hb202))
 rw [Vu ev211 hp206] at hv211
 refine Y6 1 rfl (Ql v175 Z2 rfl (Ym 0 rfl) hp206) hR210 <|wy 2 rfl (Qe (.pointer (some ⟨b8,0,none⟩)) hT184_4) (fun _=>hR210) ?_
 obtain ⟨r214,hr213,hz⟩:=Qb hz
 refine w1 3 rfl (Zw (vs:=[.pointer (some ⟨b8,0,none⟩)]) (L:=[.box b8 k0_191 136]) (R:=[.row (.slice none 0 0) 3 1,.row (.slice none 0 0) 3 1,.row (.slice none 0 0) 3 1,.row (.slice none 0 0) 65 3,.box b29 cs202 118,.row v175 3 1,.row v198 3 1,.row v119 3 1,.row v55 65 3,.box b3 (Zr.zc GFrame) 118]) (rv:=(fun M' u L' => ∃ k0,u = .int .i64 r214.1∧L'=[.box b8 k0 136]∧rep M' k0 r214.2)) cb79 (Zu rfl) hS (hS.sel [0,1,2,3,4,5,6,7,8,9,10] (by decide) rfl) (fun hS=>rNumber_ok hS f191_0 hr213) ?_)
 rintro u213 M213 w212 L213 hx213 ⟨k0_213,rfl,hL213,f213_0⟩ hS
 replace hS:=hS _ hL213
 replace hG209:=Qc hG209 hx213
 refine Yr hS hG209 fun hR215 => ?_
 refine w1 4 rfl (Z0 (α := Int) (l:=([r214.1]:List Int)) [.int .i64 r214.1] tl28 (Ys rfl Vf) rfl rfl (by decide) (by decide) (by decide) hS (K5 (ri r214.1:rep M213 _ _) Ji) ?_)
 intro v217 M217 w216 hx217 hv217 hS
 replace hv211:=Qw (hx213.1.trans hx217.1) hv211
 replace hG209:=Qc hG209 hx217
 refine Yr hS hG209 fun hR218 => ?_
 obtain ⟨l221,hr220,hz⟩:=Qb hz
 obtain ⟨hy220,hs220⟩:=Z1 hr220
 refine w1 5 rfl (Y3 (α := Int) (j:=6) Jh hS rfl rfl rfl hv211 hv217 hy220 ?_)
 intro v220 M220 w219 hx220 hv220 hS
 rw [← hs220] at hv220
 clear hr220 hs220
 replace hb202:=Rep.mono (hx213.1.trans (hx217.1.trans hx220.1)) hb202
 replace f213_0:=Rep.mono (hx217.1.trans hx220.1) f213_0
 replace hF180:=Qc hF180 (hx185.trans (hx191.trans (hx195.trans (hx198.trans (hx213.trans (hx217.trans hx220))))))
 replace hG209:=Qc hG209 hx220
 refine Yr hS hG209 fun hR222=>wy 6 rfl (Qp Kc hT184_5) (fun _=>hR222) ?_
 obtain ⟨d225,hd224,hz⟩:=Qb hz
 refine w1 7 rfl (Q8 5 1 hS rfl hb202 rfl rfl (Q1 hv220) (Q9 hv220) rfl (GFrame.u6 (rr hb202) (Lf (Vi (rr hb202)) (Q1 hv220))) hd224 ?_)
 intro cs224 w223 hb224 ha224 hs224 hS
 have hp226:=(ha224 (by omega)).trans hp204
 have hp227:=(ha224 (by omega)).trans hp205
 have hp228:=(ha224 (by omega)).trans hp207
 have hp229:=hs224
 refine ⟨nB,?_⟩
 refine wd (Q7 ?_)
 refine (Qa ?_)
 refine Qi <|Qd (Qe (.int .i64 y177) hT184_8) <|Qd (Kf rfl rfl) <|Qd (Qj (.int .i64 (IntKind.wrap .i64 (y177-1))) rfl) ?_
 refine Qf (Qa ?_)
 exact ⟨M220,k0_213,r214.2,cs224,d225,v198,v220,(IntKind.wrap .i64 (y177-1)),hF180,hS,f213_0,hb224,hp226,hp227,hp228,hp229,hT184_2,hT184_4,hT184_5,rfl,(by rw [← hrec178];exact hz)⟩
 rintro T130 w128 ⟨M129,hx131,hS,hT130_2,hT130_4,hT130_5,hT130_7,hz⟩
 replace hb114:=Rep.mono hx131.1 hb114
 replace hb116:=Rep.mono hx131.1 hb116
 rw [decode_j3] at hz
 refine Qh <|Qy <|Yt [.box b29 cs116 118] [7] Z6 hS fun w132 hS hG133 hR134=>wy 0 rfl (Qp Y5 hT130_5) (fun _=>hR134) ?_
 obtain ⟨v135,ev135,hv135⟩:=(Yi (rr hb116))
 rw [Vu ev135 hp120] at hv135
 refine Y6 1 rfl (Ql v119 Z2 rfl (Ym 0 rfl) hp120) hR134 <|wy 2 rfl (Qe (.pointer (some ⟨b8,0,none⟩)) hT130_4) (fun _=>hR134) ?_
 obtain ⟨r138,hr137,hz⟩:=Qb hz
 refine w1 3 rfl (Zw (vs:=[.pointer (some ⟨b8,0,none⟩)]) (L:=[.box b8 cs114 136]) (R:=[.row (.slice none 0 0) 3 1,.row (.slice none 0 0) 3 1,.row (.slice none 0 0) 3 1,.row (.slice none 0 0) 65 3,.box b29 cs116 118,.row (.slice none 0 0) 3 1,.row (.slice none 0 0) 3 1,.row v119 3 1,.row v55 65 3,.box b3 (Zr.zc GFrame) 118]) (rv:=(fun M' u L' => ∃ k0,u = .int .i64 r138.1∧L'=[.box b8 k0 136]∧rep M' k0 r138.2)) cb78 (Zu rfl) hS (hS.sel [0,1,2,3,4,5,6,7,8,9,10] (by decide) rfl) (fun hS=>rByte_ok hS hb114 hr137) ?_)
 rintro u137 M137 w136 L137 hx137 ⟨k0_137,rfl,hL137,f137_0⟩ hS
 replace hS:=hS _ hL137
 replace hG133:=Qc hG133 hx137
 refine Yr hS hG133 fun hR139 => ?_
 refine w1 4 rfl (Z0 (α := Int) (l:=([r138.1]:List Int)) [.int .i64 r138.1] tl28 (Ys rfl Vf) rfl rfl (by decide) (by decide) (by decide) hS (K5 (ri r138.1:rep M137 _ _) Ji) ?_)
 intro v141 M141 w140 hx141 hv141 hS
 replace hv135:=Qw (hx137.1.trans hx141.1) hv135
 replace hG133:=Qc hG133 hx141
 refine Yr hS hG133 fun hR142 => ?_
 obtain ⟨l145,hr144,hz⟩:=Qb hz
 obtain ⟨hy144,hs144⟩:=Z1 hr144
 refine w1 5 rfl (Y3 (α := Int) (j:=8) Jh hS rfl rfl rfl hv135 hv141 hy144 ?_)
 intro v144 M144 w143 hx144 hv144 hS
 rw [← hs144] at hv144
 clear hr144 hs144
 replace hb116:=Rep.mono (hx137.1.trans (hx141.1.trans hx144.1)) hb116
 replace f137_0:=Rep.mono (hx141.1.trans hx144.1) f137_0
 replace hF126:=Qc hF126 (hx131.trans (hx137.trans (hx141.trans hx144)))
 replace hG133:=Qc hG133 hx144
 refine Yr hS hG133 fun hR146=>wy 6 rfl (Qp Y5 hT130_5) (fun _=>hR146) ?_
 obtain ⟨d149,hd148,hz⟩:=Qb hz
 refine w1 7 rfl (Q8 5 1 hS rfl hb116 rfl rfl (Q1 hv144) (Q9 hv144) rfl (GFrame.u4 (rr hb116) (Lf (Yi (rr hb116)) (Q1 hv144))) hd148 ?_)
 intro cs148 w147 hb148 ha148 hs148 hS
 have hp150:=(ha148 (by omega)).trans hp118
 have hp151:=(ha148 (by omega)).trans hp121
 have hp152:=(ha148 (by omega)).trans hp122
 have hp153:=hs148
 refine ⟨nB,?_⟩
 refine wd (Q7 ?_)
 refine (Qa ?_)
 refine Qi <|Qd (Qe (.int .i64 y123) hT130_7) <|Qd (Kf rfl rfl) <|Qd (Qj (.int .i64 (IntKind.wrap .i64 (y123-1))) rfl) ?_
 refine Qf (Qa ?_)
 exact ⟨M144,k0_137,r138.2,cs148,d149,v144,(IntKind.wrap .i64 (y123-1)),hF126,hS,f137_0,hb148,hp150,hp153,hp151,hp152,hT130_2,hT130_4,hT130_5,rfl,(by rw [← hrec124];exact hz)⟩
 rintro T67 w65 ⟨M66,hx68,hS,hT67_2,hT67_4,hT67_5,hT67_6,hz⟩
 replace hb51:=Rep.mono hx68.1 hb51
 replace hb53:=Rep.mono hx68.1 hb53
 rw [decode_j1] at hz
 refine Qh <|Qy <|Yt [.box b29 cs53 118] [12] Z6 hS fun w69 hS hG70 hR71=>wy 0 rfl (Qp V4 hT67_5) (fun _=>hR71) ?_
 obtain ⟨v72,ev72,hv72⟩:=(Y8 (rr hb53))
 rw [Vu ev72 hp56] at hv72
 refine Y6 1 rfl (Ql v55 Vn rfl (Ym 0 rfl) hp56) hR71 <|wy 2 rfl (Qe (.pointer (some ⟨b8,0,none⟩)) hT67_4) (fun _=>hR71) <|wy 4 rfl (Qe (.pointer (some ⟨b8,0,none⟩)) hT67_4) (fun _=>hR71) <|wy 6 rfl (Qe (.pointer (some ⟨b8,0,none⟩)) hT67_4) (fun _=>hR71) ?_
 obtain ⟨r75,hr74,hz⟩:=Qb hz
 refine w1 3 rfl (Zw (vs:=[.pointer (some ⟨b8,0,none⟩)]) (L:=[.box b8 cs51 136]) (R:=[.row (.slice none 0 0) 3 1,.row (.slice none 0 0) 3 1,.row (.slice none 0 0) 3 1,.row (.slice none 0 0) 65 3,.box b29 cs53 118,.row (.slice none 0 0) 3 1,.row (.slice none 0 0) 3 1,.row (.slice none 0 0) 3 1,.row v55 65 3,.box b3 (Zr.zc GFrame) 118]) (rv:=(fun M' u L' => ∃ k0,u = .int .i64 r75.1∧L'=[.box b8 k0 136]∧rep M' k0 r75.2)) cb78 (Zu rfl) hS (hS.sel [0,1,2,3,4,5,6,7,8,9,10] (by decide) rfl) (fun hS=>rByte_ok hS hb51 hr74) ?_)
 rintro u74 M74 w73 L74 hx74 ⟨k0_74,rfl,hL74,f74_0⟩ hS
 replace hS:=hS _ hL74
 replace hG70:=Qc hG70 hx74
 refine Yr hS hG70 fun hR76 => ?_
 obtain ⟨r79,hr78,hz⟩:=Qb hz
 refine w1 5 rfl (Zw (vs:=[.pointer (some ⟨b8,0,none⟩)]) (L:=[.box b8 k0_74 136]) (R:=[.row (.slice none 0 0) 3 1,.row (.slice none 0 0) 3 1,.row (.slice none 0 0) 3 1,.row (.slice none 0 0) 65 3,.box b29 cs53 118,.row (.slice none 0 0) 3 1,.row (.slice none 0 0) 3 1,.row (.slice none 0 0) 3 1,.row v55 65 3,.box b3 (Zr.zc GFrame) 118]) (rv:=(fun M' u L' => ∃ k0,u = .int .i64 r79.1∧L'=[.box b8 k0 136]∧rep M' k0 r79.2)) cb78 (Zu rfl) hS (hS.sel [0,1,2,3,4,5,6,7,8,9,10] (by decide) rfl) (fun hS=>rByte_ok hS f74_0 hr78) ?_)
 rintro u78 M78 w77 L78 hx78 ⟨k0_78,rfl,hL78,f78_0⟩ hS
 replace hS:=hS _ hL78
 replace hG70:=Qc hG70 hx78
 refine Yr hS hG70 fun hR80 => ?_
 obtain ⟨r83,hr82,hz⟩:=Qb hz
 refine w1 7 rfl (Zw (vs:=[.pointer (some ⟨b8,0,none⟩)]) (L:=[.box b8 k0_78 136]) (R:=[.row (.slice none 0 0) 3 1,.row (.slice none 0 0) 3 1,.row (.slice none 0 0) 3 1,.row (.slice none 0 0) 65 3,.box b29 cs53 118,.row (.slice none 0 0) 3 1,.row (.slice none 0 0) 3 1,.row (.slice none 0 0) 3 1,.row v55 65 3,.box b3 (Zr.zc GFrame) 118]) (rv:=(fun M' u L' => ∃ k0,u = .int .i64 r83.1∧L'=[.box b8 k0 136]∧rep M' k0 r83.2)) cb79 (Zu rfl) hS (hS.sel [0,1,2,3,4,5,6,7,8,9,10] (by decide) rfl) (fun hS=>rNumber_ok hS f78_0 hr82) ?_)
 rintro u82 M82 w81 L82 hx82 ⟨k0_82,rfl,hL82,f82_0⟩ hS
 replace hS:=hS _ hL82
 replace hG70:=Qc hG70 hx82
 refine Yr hS hG70 fun hR84 => ?_
 have k85_0:=GOp.w0 (Zr.zr:rep M82 (Zr.zc GOp) (Zr.zd:GOp)) (ri r75.1:rep M82 _ _)
 have k85_1:=GOp.w1 k85_0 (ri r79.1:rep M82 _ _)
 have k85_2:=GOp.w2 k85_1 (ri r83.1:rep M82 _ _)
 obtain ⟨d86,hd85,hz⟩:=Qb hz
 obtain ⟨cs85,hf85,ha85⟩ : ∃ cs,fillZ (([(0,1),(1,1),(2,1)]:List (Nat × Nat))[·]?) (Zr.zc GOp) [(0,.int .i64 r75.1),(1,.int .i64 r79.1),(2,.int .i64 r83.1)]=some cs∧rep M82 cs d86:=⟨_,(Zb (Zr.zr:rep M82 (Zr.zc GOp) (Zr.zd:GOp)) rfl rfl (Rep.len (ri r75.1:rep M82 _ _)) (by decide) (Zb k85_0 rfl rfl (Rep.len (ri r79.1:rep M82 _ _)) (by decide) (Zb k85_1 rfl rfl (Rep.len (ri r83.1:rep M82 _ _)) (by decide) Z8))),Z9 (x:=({ kind:=r75.1,key:=r79.1,n:=r83.1 }:GOp)) k85_2 hd85⟩
 refine wy 8 rfl (Zx [(0,.int .i64 r75.1),(1,.int .i64 r79.1),(2,.int .i64 r83.1)] tb65 (Ys rfl (Ys rfl (Ys rfl Vf))) hf85) (fun _=>hR84) ?_
 refine w1 9 rfl (Z0 (α := GOp) (l:=([d86]:List GOp)) [.agg cs85.toArray] tl27 (Ys rfl Vf) rfl rfl (by decide) (by decide) (by decide) hS (K5 ha85 Ji) ?_)
 intro v88 M88 w87 hx88 hv88 hS
 replace hv72:=Qw (hx74.1.trans (hx78.1.trans (hx82.1.trans hx88.1))) hv72
 replace hG70:=Qc hG70 hx88
 refine Yr hS hG70 fun hR89 => ?_
 obtain ⟨l92,hr91,hz⟩:=Qb hz
 obtain ⟨hy91,hs91⟩:=Z1 hr91
 refine w1 10 rfl (Y3 (α := GOp) (j:=9) tp27 hS rfl rfl rfl hv72 hv88 hy91 ?_)
 intro v91 M91 w90 hx91 hv91 hS
 rw [← hs91] at hv91
 clear hr91 hs91
 replace hb53:=Rep.mono (hx74.1.trans (hx78.1.trans (hx82.1.trans (hx88.1.trans hx91.1)))) hb53
 replace f82_0:=Rep.mono (hx88.1.trans hx91.1) f82_0
 replace hF63:=Qc hF63 (hx68.trans (hx74.trans (hx78.trans (hx82.trans (hx88.trans hx91)))))
 replace hG70:=Qc hG70 hx91
 refine Yr hS hG70 fun hR93=>wy 11 rfl (Qp V4 hT67_5) (fun _=>hR93) ?_
 obtain ⟨d96,hd95,hz⟩:=Qb hz
 refine w1 12 rfl (Q8 5 1 hS rfl hb53 rfl rfl (Q1 hv91) (Q9 hv91) rfl (GFrame.u3 (rr hb53) (Lf (Y8 (rr hb53)) (Q1 hv91))) hd95 ?_)
 intro cs95 w94 hb95 ha95 hs95 hS
 have hp97:=(ha95 (by omega)).trans hp57
 have hp98:=(ha95 (by omega)).trans hp58
 have hp99:=(ha95 (by omega)).trans hp59
 have hp100:=hs95
 refine ⟨nB,?_⟩
 refine wd (Q7 ?_)
 refine (Qa ?_)
 refine Qi <|Qd (Qe (.int .i64 y60) hT67_6) <|Qd (Kf rfl rfl) <|Qd (Qj (.int .i64 (IntKind.wrap .i64 (y60-1))) rfl) ?_
 refine Qf (Qa ?_)
 exact ⟨M91,k0_82,r83.2,cs95,d96,v91,(IntKind.wrap .i64 (y60-1)),hF63,hS,f82_0,hb95,hp100,hp97,hp98,hp99,hT67_2,hT67_4,hT67_5,rfl,(by rw [← hrec61];exact hz)⟩
end Go.Proofs.Yteilffoclpgijaa
namespace Go.Proofs.Yteilffoclpgijaa
open Go.RowKit
open Rep (rep)
set_option linter.unusedVariables false
abbrev Vl := @Try.underlying72
abbrev Zc := @Y_extract
def nodeReplay_l1 (fu:Nat) (x1:Int) (x2:List ByteArray):Nat→GNode→GNode→Int→Option (GNode × Int)
 | 0,_,_,_=>none
 | n+1,d20,d22,y23 =>
 (bif decide (y23<(x2.length:Int)) then
 (idx x2 y23).bind fun x30 =>
 (decodeD fu x30).bind fun r33 =>
 (some r33.1).bind fun d38 =>
 (bif r33.2 != 0 then
 (some ({ entries:=Zr.zd,order:=Zr.zd,values:=Zr.zd }:GNode)).bind fun d41 =>
 (some d41).bind fun d44 =>
 some (d44,r33.2)
 else
 (nodeTakeD fu d20 x1 d38).bind fun r49 =>
 (some r49.1).bind fun d52 =>
 (bif r49.2.2 != 0 then
 (some ({ entries:=Zr.zd,order:=Zr.zd,values:=Zr.zd }:GNode)).bind fun d55 =>
 (some d55).bind fun d58 =>
 some (d58,r49.2.2)
 else
 (nodeReplay_l1 fu x1 x2 n) d52 d22 (IntKind.wrap .i64 (y23+1))))
 else
 (some d20).bind fun d62 =>
 some (d62,0))
def nodeReplayD (fu:Nat) (x1:Int) (x2:List ByteArray):Option (GNode × Int) :=
 (nodeIsD fu x1).bind fun r9 =>
 (bif !r9 then
 (some (Zr.zd:GNode)).bind fun d14 =>
 some (d14,2)
 else
 nodeReplay_l1 fu x1 x2 fu (Zr.zd:GNode) (Zr.zd:GNode) 0)
set_option maxRecDepth 100000 in
set_option maxHeartbeats 4000000 in
theorem nodeReplay_ok {M:Mm} {w:World} {vx2:Value} {x1:Int} {x2:List ByteArray} {fu:Nat} {r:GNode × Int} (hA:Agree M w) (hvx2:repL M vx2 x2) (hz:nodeReplayD fu x1 x2=some r) :
    Calls Try.prog 74 #[.int .i64 x1,vx2] w (Gives M w (fun M' u => ∃ c0,u = .tuple #[.agg c0.toArray,.int .i64 r.2]∧rep M' c0 r.1)):=by
 refine Zh Try.func74 rfl 44 rfl rfl (by kernel_rfl) fun T hT => ?_
 have hT_0:T 0 = .int .i64 x1:=hT 0
 have hT_1:T 1=vx2:=hT 1
 clear hT
 have hE:=Qg w.heap.size noX M
 have hS:St w noX M [] w:=Zv hA
 rw [nodeReplayD] at hz
 refine Qh <|Qi ?_
 refine Qu (Zf tz34 hS ?_)
 intro b4 w3 hb4 hS
 have zb4:rep M (Zr.zc GNode) (Zr.zd:GNode):=Zr.zr
 refine Qd (Qj (.int .i64 0) rfl) ?_
 refine Qf (Qa ?_)
 refine Qh <|Qi ?_
 refine Qu (Zf tz34 hS ?_)
 intro b6 w5 hb6 hS
 have zb6:rep M (Zr.zc GNode) (Zr.zd:GNode):=Zr.zr
 refine Qf (Qa ?_)
 refine Qh <|Qh <|Qi <|Qd (Qe (.int .i64 x1) hT_0) ?_
 obtain ⟨r9,hr8,hz⟩:=Qb hz
 refine Qu (Z4 (vs:=[.int .i64 x1]) (v := .bool r9) cb87 (Zu rfl) hS (nodeIs_ok hS.agree hr8) ?_)
 intro w7 hS
 refine Qd (Ye rfl) ?_
 refine Qf (Qa ?_)
 refine Qr rfl (fun hc10 => ?_) (fun hc10 => ?_)
 replace hz:=Qn hz hc10
 refine Qh <|Qi ?_
 have ha11:=(rr zb6)
 refine Qd (Zg Vc rfl (hS.bvB 0 rfl) (Rep.len ha11)) ?_
 obtain ⟨d14,hd13,hz⟩:=Qb hz
 refine Qu (Q8 1 201 hS rfl zb4 rfl rfl ha11 rfl rfl (Lf (rr zb4) ha11) hd13 ?_)
 intro cs13 w12 hb13 ha13 hs13 hS
 refine Qd (Qj (.int .i64 2) rfl) ?_
 refine Qf (Qa ?_)
 cases hz
 exact Q4 (Qs (R_ct (j:=1) rfl rfl rfl (by rw [Rep.len hb13];exact Vc) hS rfl (Zj (Qm (Qm hS)) hE ⟨_,rfl,hb13⟩)))
 replace hz:=Qo hz hc10
 refine Qv (Qa ?_)
 refine Qh <|Qh <|Qi <|Qd (Qe (vx2) hT_1) ?_
 obtain ⟨a15,c15,hv15,_⟩:=Q3 hvx2
 refine Qd (Zk Vl (Vw hv15 rfl)) <|Qd (Qe (.int .i64 0) rfl) ?_
 refine Qf (Qa ?_)
 refine Qy ?_
 refine Zy (fun k25 T' w' => ∃ M17 cs19 d20 cs21 d22 y23,Mm.ext w.heap.size noX M M17∧St w noX M17 [.box b6 cs19 34,.box b4 cs21 34] w'∧rep M17 cs19 d20∧rep M17 cs21 d22∧T' 0 = .int .i64 x1∧T' 4 = .pointer (some ⟨b4,0,none⟩)∧T' 6 = .pointer (some ⟨b6,0,none⟩)∧T' 15=vx2∧T' 16 = .int .i64 (x2.length:Int)∧T' 17 = .int .i64 y23∧nodeReplay_l1 fu x1 x2 k25 d20 d22 y23=some r) fu ?_ ?_ ?_
 exact ⟨M,(Zr.zc GNode),(Zr.zd:GNode),(Zr.zc GNode),(Zr.zd:GNode),(0:Int),(Qg _ _ _),hS,zb6,zb4,hT_0,rfl,rfl,rfl,rfl,rfl,hz⟩
 rintro T' w' ⟨_,_,_,_,_,_,_,_,_,_,_,_,_,_,_,_,hz⟩
 rw [nodeReplay_l1] at hz
 cases hz
 intro k25
 rintro T18 w16 ⟨M17,cs19,d20,cs21,d22,y23,hx27,hS,hb19,hb21,hT18_0,hT18_4,hT18_6,hT18_15,hT18_16,hT18_17,hz⟩
 replace hvx2:=Qw hx27.1 hvx2
 replace hE:=Qc hE hx27
 have hF26:=hx27
 rw [nodeReplay_l1] at hz
 obtain ⟨rec24,hrec24⟩ : ∃ f,f=nodeReplay_l1 fu x1 x2 k25:=⟨_,rfl⟩
 rw [← hrec24] at hz
 refine Qh <|Qi <|Qd (Zq hT18_17 hT18_16) ?_
 refine Qf (Qa ?_)
 refine Qh ?_
 refine Qr rfl (fun hc28 => ?_) (fun hc28 => ?_)
 replace hz:=Qn hz hc28
 refine Qv (Qa ?_)
 refine Qh <|Qy <|Qh <|Qi ?_
 obtain ⟨x30,hx29,hz⟩:=Qb hz
 obtain ⟨b29,o29,c29,p29,hv29,hi29,hj29,hM29,hr29⟩:=Yd hvx2 hx29
 replace hr29:rep _ (sl p29 (o29+Int.toNat y23*1) 1) x30:=hr29
 refine Qd (Yq il72 hT18_15 hv29 hT18_17 hi29 hj29) <|Qd (Ql (.string x30) ts9 rfl (hS.bvM hM29) hr29.1) <|Qd (Qj (.string x30) rfl) ?_
 refine Qf (Qa ?_)
 refine Qh <|Qi <|Qd (Qe (.string x30) rfl) ?_
 obtain ⟨r33,hr32,hz⟩:=Qb hz
 refine Qu (Y1 (vs:=[.string x30]) (rv:=(fun M' u => ∃ c0,u = .tuple #[.agg c0.toArray,.int .i64 r33.2]∧rep M' c0 r33.1)) cb67 (Zu rfl) hS (decode_ok hS.agree hr32) ?_)
 intro u32 M32 w31 hx32 hu32 hS
 obtain ⟨c32_0,hq32,f32_0⟩:=hu32
 subst hq32
 replace hb19:=Rep.mono hx32.1 hb19
 replace hb21:=Rep.mono hx32.1 hb21
 replace hE:=Qc hE hx32
 replace hF26:=Qc hF26 hx32
 refine Qd (Qe (.tuple #[.agg c32_0.toArray,.int .i64 r33.2]) rfl) <|Qd (Zc (v := .agg c32_0.toArray) rfl rfl) <|Qd (Zc (v := .int .i64 r33.2) rfl rfl) ?_
 refine Qu (Zf tz118 hS ?_)
 intro b35 w34 hb35 hS
 have zb35:rep M32 (Zr.zc GFrame) (Zr.zd:GFrame):=Zr.zr
 obtain ⟨d38,hd37,hz⟩:=Qb hz
 refine Qu (Q8 0 7 hS rfl zb35 rfl rfl f32_0 rfl rfl (Lf (rr zb35) f32_0) hd37 ?_)
 intro cs37 w36 hb37 ha37 hs37 hS
 refine Qd (Qj (.int .i64 r33.2) rfl) ?_
 refine Qf (Qa ?_)
 refine Qh <|Qh <|Qi <|Qd (Qe (.int .i64 r33.2) rfl) <|Qd (Yp rfl rfl) ?_
 refine Qf (Qa ?_)
 refine Qr rfl (fun hc39 => ?_) (fun hc39 => ?_)
 replace hz:=Qn hz hc39
 refine Qh <|Qi ?_
 obtain ⟨d41,hd40,hz⟩:=Qb hz
 obtain ⟨cs40,hf40,ha40⟩ : ∃ cs,fillZ (([(0,192),(192,1),(193,8)]:List (Nat × Nat))[·]?) (Zr.zc GNode) []=some cs∧rep M32 cs d41:=⟨_,Z8,Z9 (x:=({ entries:=Zr.zd,order:=Zr.zd,values:=Zr.zd }:GNode)) (Zr.zr:rep M32 (Zr.zc GNode) (Zr.zd:GNode)) hd40⟩
 refine Qd (Zx [] tb34 Vf hf40) <|Qd (Qe (.int .i64 r33.2) rfl) ?_
 obtain ⟨d44,hd43,hz⟩:=Qb hz
 refine Qu (Q8 2 201 hS rfl hb21 hT18_4 rfl ha40 rfl rfl (Lf (rr hb21) ha40) hd43 ?_)
 intro cs43 w42 hb43 ha43 hs43 hS
 refine Qd (Qj (.int .i64 r33.2) rfl) ?_
 refine Qf (Qa ?_)
 cases hz
 exact Q4 (Qs (Zi (Qs (Qs (Zi (Qs (R_ct (j:=2) rfl hT18_4 rfl (by rw [Rep.len hb43];exact Vc) hS rfl (Zj (Qm (Qm (Qm hS))) hE ⟨_,rfl,hb43⟩))))))))
 replace hz:=Qo hz hc39
 refine Qv (Qa ?_)
 refine Qh <|Qi ?_
 have ha45:=(rr hb19)
 refine Qd (Zg Vc hT18_6 (hS.bvB 1 rfl) (Rep.len ha45)) <|Qd (Qe (.int .i64 x1) hT18_0) ?_
 have ha46:=(rr hb37)
 refine Qd (Zg K4 rfl (hS.bvB 0 rfl) (Rep.len ha46)) ?_
 obtain ⟨r49,hr48,hz⟩:=Qb hz
 refine Qu (Y1 (vs:=[.agg (sl cs19 (0) 201).toArray,.int .i64 x1,.agg (sl cs37 (0) 7).toArray]) (rv:=(fun M' u => ∃ c0 v1,u = .tuple #[.agg c0.toArray,v1,.int .i64 r49.2.2]∧rep M' c0 r49.1∧repL M' v1 r49.2.1)) cb81 (Jj rfl rfl rfl) hS (nodeTake_ok hS.agree ha45 ha46 hr48) ?_)
 intro u48 M48 w47 hx48 hu48 hS
 obtain ⟨c48_0,v48_1,hq48,f48_0,f48_1⟩:=hu48
 subst hq48
 replace hb19:=Rep.mono hx48.1 hb19
 replace hb21:=Rep.mono hx48.1 hb21
 replace hE:=Qc hE hx48
 replace hF26:=Qc hF26 hx48
 refine Qd (Qe (.tuple #[.agg c48_0.toArray,v48_1,.int .i64 r49.2.2]) rfl) <|Qd (Zc (v := .agg c48_0.toArray) rfl rfl) <|Qd (Zc (v:=v48_1) rfl rfl) <|Qd (Zc (v := .int .i64 r49.2.2) rfl rfl) ?_
 obtain ⟨d52,hd51,hz⟩:=Qb hz
 refine Qu (Q8 1 201 hS rfl hb19 hT18_6 rfl f48_0 rfl rfl (Lf (rr hb19) f48_0) hd51 ?_)
 intro cs51 w50 hb51 ha51 hs51 hS
 refine Qd (Qj (.int .i64 r49.2.2) rfl) ?_
 refine Qf (Qa ?_)
 refine Qh <|Qi <|Qd (Qe (.int .i64 r49.2.2) rfl) <|Qd (Yp rfl rfl) ?_
 refine Qf (Qa ?_)
 refine Qr rfl (fun hc53 => ?_) (fun hc53 => ?_)
 replace hz:=Qn hz hc53
 refine Qh <|Qi ?_
 obtain ⟨d55,hd54,hz⟩:=Qb hz
 obtain ⟨cs54,hf54,ha54⟩ : ∃ cs,fillZ (([(0,192),(192,1),(193,8)]:List (Nat × Nat))[·]?) (Zr.zc GNode) []=some cs∧rep M48 cs d55:=⟨_,Z8,Z9 (x:=({ entries:=Zr.zd,order:=Zr.zd,values:=Zr.zd }:GNode)) (Zr.zr:rep M48 (Zr.zc GNode) (Zr.zd:GNode)) hd54⟩
 refine Qd (Zx [] tb34 Vf hf54) <|Qd (Qe (.int .i64 r49.2.2) rfl) ?_
 obtain ⟨d58,hd57,hz⟩:=Qb hz
 refine Qu (Q8 2 201 hS rfl hb21 hT18_4 rfl ha54 rfl rfl (Lf (rr hb21) ha54) hd57 ?_)
 intro cs57 w56 hb57 ha57 hs57 hS
 refine Qd (Qj (.int .i64 r49.2.2) rfl) ?_
 refine Qf (Qa ?_)
 cases hz
 exact Q4 (Zi (Qs (Qs (Zi (Qs (R_ct (j:=2) rfl hT18_4 rfl (by rw [Rep.len hb57];exact Vc) hS rfl (Zj (Qm (Qm (Qm hS))) hE ⟨_,rfl,hb57⟩)))))))
 replace hz:=Qo hz hc53
 refine Qv (Q7 ?_)
 refine (Qa ?_)
 refine Qi <|Qd (Zz hT18_17 rfl) <|Qd (Qe (.int .i64 (IntKind.wrap .i64 (y23+1))) rfl) ?_
 refine Qf (Qa ?_)
 exact ⟨M48,cs51,d52,cs21,d22,(IntKind.wrap .i64 (y23+1)),hF26,(Yk hS hb35),hb51,hb21,hT18_0,hT18_4,hT18_6,hT18_15,hT18_16,rfl,(by rw [← hrec24];exact hz)⟩
 replace hz:=Qo hz hc28
 refine Zs <|Q0 <|Q0 <|Zt ?_
 refine (Qa ?_)
 refine Qh <|Qi ?_
 have ha59:=(rr hb19)
 refine Qd (Zg Vc hT18_6 (hS.bvB 0 rfl) (Rep.len ha59)) ?_
 obtain ⟨d62,hd61,hz⟩:=Qb hz
 refine Qu (Q8 1 201 hS rfl hb21 hT18_4 rfl ha59 rfl rfl (Lf (rr hb21) ha59) hd61 ?_)
 intro cs61 w60 hb61 ha61 hs61 hS
 refine Qd (Qj (.int .i64 0) rfl) ?_
 refine Qf (Qa ?_)
 cases hz
 exact Q4 (R_ct (j:=1) rfl hT18_4 rfl (by rw [Rep.len hb61];exact Vc) hS rfl (Zj (Qm (Qm hS)) hE ⟨_,rfl,hb61⟩))
end Go.Proofs.Yteilffoclpgijaa
namespace Go.Proofs.Yteilffoclpgijaa
open Go.RowKit
open Rep (rep)
set_option linter.unusedVariables false
def enough_j1 (y7:Int) (rec8:Int→Option Bool):Option Bool :=
 rec8 (IntKind.wrap .i64 (y7+1))
def enough_j2 (y22:Int) (rec23:Int→Int→Option Bool) (y31:Int):Option Bool :=
 rec23 y31 (IntKind.wrap .i64 (y22+1))
def enough_j3 (y7:Int) (rec8:Int→Option Bool) (c42:Bool):Option Bool :=
 (bif c42 then
 some false
 else
 enough_j1 y7 rec8)
def enough_l2 (x1:GCase) (y7:Int) (rec8:Int→Option Bool):Nat→Int→Int→Option Bool
 | 0,_,_=>none
 | n+1,y21,y22 =>
 (bif decide (y22<3) then
 (inR (IntKind.wrap .i64 ((IntKind.wrap .i64 (y7*3))+y22)) 6).bind fun _ =>
 (idxV x1.told (IntKind.wrap .i64 ((IntKind.wrap .i64 (y7*3))+y22))).bind fun x36 =>
 (bif x36 then
 enough_j2 y22 (enough_l2 x1 y7 rec8 n) (IntKind.wrap .i64 (y21+1))
 else
 enough_j2 y22 (enough_l2 x1 y7 rec8 n) y21)
 else
 (some (touchesZ x1.ops y7)).bind fun r49 =>
 (bif r49 then
 enough_j3 y7 rec8 (decide (y21<2))
 else
 enough_j3 y7 rec8 false))
def enough_l1 (fu:Nat) (x1:GCase):Nat→Int→Option Bool
 | 0,_=>none
 | n+1,y7 =>
 (bif decide (y7<2) then
 enough_l2 x1 y7 (enough_l1 fu x1 n) fu 0 0
 else
 some true)
def enoughD (fu:Nat) (x1:GCase):Option Bool :=
 enough_l1 fu x1 fu 0
set_option maxRecDepth 100000 in
set_option maxHeartbeats 4000000 in
theorem enough_ok {M:Mm} {w:World} {cx1:List Value} {x1:GCase} {fu:Nat} {r:Bool} (hA:Agree M w) (hcx1:rep M cx1 x1) (hz:enoughD fu x1=some r) :
    Calls Try.prog 85 #[.agg cx1.toArray] w (GivesV w (.bool r)):=by
 refine Zh Try.func85 rfl 31 rfl rfl (by kernel_rfl) fun T hT => ?_
 have hT_0:T 0 = .agg cx1.toArray:=hT 0
 clear hT
 have hE:=Qg w.heap.size noX M
 have hS:St w noX M [] w:=Zv hA
 rw [enoughD] at hz
 refine Qh <|Qi ?_
 refine Qu (Yo (v := .agg cx1.toArray) (cs:=cx1) hT_0 rfl hS ?_)
 intro b3 w2 hb3 hS
 refine Qd (Qj (.bool false) rfl) ?_
 refine Qf (Qa ?_)
 refine Qh <|Qh <|Qi <|Qd (Qe (.int .i64 0) rfl) ?_
 refine Qf (Qa ?_)
 refine Qy ?_
 refine Zy (fun k9 T' w' => ∃ M5 y7,Mm.ext w.heap.size noX M M5∧St w noX M5 [.box b3 cx1 49] w'∧T' 1 = .pointer (some ⟨b3,0,none⟩)∧T' 6 = .int .i64 y7∧enough_l1 fu x1 k9 y7=some r) fu ?_ ?_ ?_
 exact ⟨M,(0:Int),(Qg _ _ _),hS,rfl,rfl,hz⟩
 rintro T' w' ⟨_,_,_,_,_,_,hz⟩
 rw [enough_l1] at hz
 cases hz
 intro k9
 rintro T6 w4 ⟨M5,y7,hx11,hS,hT6_1,hT6_6,hz⟩
 replace hcx1:=Rep.mono hx11.1 hcx1
 have hF10:=hx11
 rw [enough_l1] at hz
 obtain ⟨rec8,hrec8⟩ : ∃ f,f=enough_l1 fu x1 k9:=⟨_,rfl⟩
 rw [← hrec8] at hz
 refine Qh <|Qi <|Qd (Zq hT6_6 rfl) ?_
 refine Qf (Qa ?_)
 refine Qh ?_
 refine Qr rfl (fun hc12 => ?_) (fun hc12 => ?_)
 replace hz:=Qn hz hc12
 refine Qv (Qa ?_)
 refine Qz (fun T' w' => ∃ M14,Mm.ext w.heap.size noX M5 M14∧St w noX M14 [.box b3 cx1 49] w'∧T' 1 = .pointer (some ⟨b3,0,none⟩)∧T' 6 = .int .i64 y7∧enough_j1 y7 rec8=some r) ?_ ?_
 have hF17:=Qg w.heap.size noX M5
 refine Qy <|Qh <|Qi <|Qd (Qe (.int .i64 y7) hT6_6) <|Qd (Qj (.int .i64 y7) rfl) ?_
 refine Qf (Qa ?_)
 refine Qh <|Qi <|Qd (Qj (.int .i64 0) rfl) ?_
 refine Qf (Qa ?_)
 refine Qh <|Qh <|Qi <|Qd (Qe (.int .i64 0) rfl) ?_
 refine Qf (Qa ?_)
 refine Qy ?_
 refine Zy (fun k24 T' w' => ∃ M19 y21 y22,Mm.ext w.heap.size noX M5 M19∧St w noX M19 [.box b3 cx1 49] w'∧T' 1 = .pointer (some ⟨b3,0,none⟩)∧T' 3 = .int .i64 y7∧T' 4 = .int .i64 y21∧T' 6 = .int .i64 y7∧T' 9 = .int .i64 y22∧enough_l2 x1 y7 rec8 k24 y21 y22=some r) fu ?_ ?_ ?_
 exact ⟨M5,(0:Int),(0:Int),(Qg _ _ _),hS,hT6_1,rfl,rfl,hT6_6,rfl,hz⟩
 rintro T' w' ⟨_,_,_,_,_,_,_,_,_,_,hz⟩
 rw [enough_l2] at hz
 cases hz
 intro k24
 rintro T20 w18 ⟨M19,y21,y22,hx26,hS,hT20_1,hT20_3,hT20_4,hT20_6,hT20_9,hz⟩
 replace hcx1:=Rep.mono hx26.1 hcx1
 replace hF17:=Qc hF17 hx26
 have hF25:=hx26
 rw [enough_l2] at hz
 obtain ⟨rec23,hrec23⟩ : ∃ f,f=enough_l2 x1 y7 rec8 k24:=⟨_,rfl⟩
 rw [← hrec23] at hz
 refine Qh <|Qi <|Qd (Zq hT20_9 rfl) ?_
 refine Qf (Qa ?_)
 refine Qh ?_
 refine Qr rfl (fun hc27 => ?_) (fun hc27 => ?_)
 replace hz:=Qn hz hc27
 refine Qv (Qa ?_)
 refine Qz (fun T' w' => ∃ M29 y31,Mm.ext w.heap.size noX M19 M29∧St w noX M29 [.box b3 cx1 49] w'∧T' 1 = .pointer (some ⟨b3,0,none⟩)∧T' 3 = .int .i64 y7∧T' 4 = .int .i64 y31∧T' 6 = .int .i64 y7∧T' 9 = .int .i64 y22∧enough_j2 y22 rec23 y31=some r) ?_ ?_
 have hF33:=Qg w.heap.size noX M19
 refine Qy <|Qh <|Qi <|Qd (Qe (.int .i64 y22) hT20_9) <|Qd (Qj (.int .i64 y22) rfl) ?_
 refine Qf (Qa ?_)
 refine Qh <|Qi <|Qd (Qe (.int .i64 y7) hT20_3) <|Qd (Y_mul rfl rfl) <|Qd (Qe (.int .i64 y22) rfl) <|Qd (Zz rfl rfl) <|Qd (Qp fa49_3 hT20_1) ?_
 obtain ⟨u34,hx35,hz⟩:=Qb hz
 obtain ⟨hx35a,hx35b⟩:=Qt hx35
 refine Qd (Za Jq rfl rfl hx35a hx35b) ?_
 obtain ⟨x36,hx37,hz⟩:=Qb hz
 refine Qd (Ql (.bool x36) Jk rfl (hS.bvB 0 rfl) (vp (k:=1) rfl rfl (K7 (rr hcx1)) hx37)) ?_
 refine Qf (Qa ?_)
 refine Qr rfl (fun hc38 => ?_) (fun hc38 => ?_)
 replace hz:=Qn hz hc38
 refine Qi <|Qd (Qe (.int .i64 y21) hT20_4) <|Qd (Zz rfl rfl) <|Qd (Qj (.int .i64 (IntKind.wrap .i64 (y21+1))) rfl) ?_
 refine Qf (Q7 ?_)
 refine (Qa ?_)
 exact ⟨M19,(IntKind.wrap .i64 (y21+1)),hF33,hS,hT20_1,hT20_3,rfl,hT20_6,hT20_9,hz⟩
 replace hz:=Qo hz hc38
 refine Qv (Q7 ?_)
 refine (Qa ?_)
 exact ⟨M19,y21,hF33,hS,hT20_1,hT20_3,hT20_4,hT20_6,hT20_9,hz⟩
 rintro T30 w28 ⟨M29,y31,hx32,hS,hT30_1,hT30_3,hT30_4,hT30_6,hT30_9,hz⟩
 replace hF25:=Qc hF25 hx32
 rw [enough_j2] at hz
 refine Qi <|Qd (Zz hT30_9 rfl) <|Qd (Qe (.int .i64 (IntKind.wrap .i64 (y22+1))) rfl) ?_
 refine Qf (Qa ?_)
 exact ⟨M29,y31,(IntKind.wrap .i64 (y22+1)),hF25,hS,hT30_1,hT30_3,hT30_4,hT30_6,rfl,(by rw [← hrec23];exact hz)⟩
 replace hz:=Qo hz hc27
 refine Zs <|Q0 <|Q0 <|Zt ?_
 refine (Qa ?_)
 refine Qz (fun T' w' => ∃ M40 c42,Mm.ext w.heap.size noX M19 M40∧St w noX M40 [.box b3 cx1 49] w'∧T' 1 = .pointer (some ⟨b3,0,none⟩)∧T' 6 = .int .i64 y7∧T' 29 = .bool c42∧enough_j3 y7 rec8 c42=some r) ?_ ?_
 have hF45:=Qg w.heap.size noX M19
 refine Qi <|Qd (Qp Vy hT20_1) ?_
 obtain ⟨v46,ev46,hv46⟩:=(Yw (rr hcx1))
 refine Qd (Ql v46 Vn rfl (hS.bvB 0 rfl) ev46) <|Qd (Qe (.int .i64 y7) hT20_3) ?_
 obtain ⟨r49,hr48,hz⟩:=Qb hz
 replace hr48:=Option.some.inj hr48
 refine Qu (Z4 (vs:=[v46,.int .i64 y7]) (v := .bool r49) cb71 (Ya rfl rfl) hS (hr48 ▸ (Jb hS.agree hv46)) ?_)
 intro w47 hS
 refine Qd (Qe (.bool r49) rfl) ?_
 rcases ic hz with ⟨hc50,hz⟩ | ⟨hc50,hz⟩<;>rw [hc50]
 refine Qk rfl rfl (Qe (.int .i64 y21) hT20_4) <|Qk rfl rfl (Zq rfl rfl) <|Qd (Zp (.bool (decide (y21<2))) rfl rfl) ?_
 refine Qf (Qa ?_)
 exact ⟨M19,(decide (y21<2)),hF45,hS,hT20_1,hT20_6,rfl,hz⟩
 refine Q2 3 rfl ?_
 refine Qf (Qa ?_)
 exact ⟨M19,false,hF45,hS,hT20_1,hT20_6,rfl,hz⟩
 rintro T41 w39 ⟨M40,c42,hx43,hS,hT41_1,hT41_6,hT41_29,hz⟩
 replace hF17:=Qc hF17 hx43
 rw [enough_j3] at hz
 refine Qr hT41_29 (fun hc44 => ?_) (fun hc44 => ?_)
 replace hz:=Qn hz hc44
 refine Qh <|Qi <|Qd (Qj (.bool false) rfl) ?_
 refine Qf (Qa ?_)
 cases hz
 exact Q4 (Zi (Qs (Qs (Zi (Qs (Yj rfl rfl ⟨rfl,(Qm hS).kept⟩))))))
 replace hz:=Qo hz hc44
 refine Qv (Q7 ?_)
 refine (Qa ?_)
 exact ⟨M40,hF17,hS,hT41_1,hT41_6,hz⟩
 rintro T15 w13 ⟨M14,hx16,hS,hT15_1,hT15_6,hz⟩
 replace hF10:=Qc hF10 hx16
 rw [enough_j1] at hz
 refine Qi <|Qd (Zz hT15_6 rfl) <|Qd (Qe (.int .i64 (IntKind.wrap .i64 (y7+1))) rfl) ?_
 refine Qf (Qa ?_)
 exact ⟨M14,(IntKind.wrap .i64 (y7+1)),hF10,hS,hT15_1,rfl,(by rw [← hrec8];exact hz)⟩
 replace hz:=Qo hz hc12
 refine Zs <|Q0 <|Q0 <|Zt ?_
 refine (Qa ?_)
 refine Qh <|Qi <|Qd (Qj (.bool true) rfl) ?_
 refine Qf (Qa ?_)
 cases hz
 exact Q4 (Yj rfl rfl ⟨rfl,(Qm hS).kept⟩)
def postTake_j2 (fu:Nat) (x1:GCase) (x2:Int) (x3:GFrame) (d30:GCase):Option (GCase × (List GFrame) × Int) :=
 (inR x3.node 6).bind fun _ =>
 (idxV x1.told x3.node).bind fun x36 =>
 (setV x1.told x3.node true).bind fun a38 =>
 (some ({ x1 with told:=a38 }:GCase)).bind fun d40 =>
 (some (unionZ d40.deps x3.deps)).bind fun r45 =>
 (some ({ d40 with deps:=r45 }:GCase)).bind fun d48 =>
 (enoughD fu d48).bind fun r52 =>
 (some ({ d48 with fixed:=r52 }:GCase)).bind fun d55 =>
 (bif !d55.fixed then
 (some d55).bind fun d60 =>
 some (d60,[],0)
 else
 (againD fu d55 x2).bind fun r68 =>
 (some d55).bind fun d72 =>
 some (d72,r68,0))
def postTake_j3 (fu:Nat) (x1:GCase) (x2:Int) (x3:GFrame) (d14:GCase) (c78:Bool):Option (GCase × (List GFrame) × Int) :=
 (bif c78 then
 (some x1).bind fun d84 =>
 some (d84,[],0)
 else
 postTake_j2 fu x1 x2 x3 d14)
def postTake_j4 (d109:GCase):Option (GCase × (List GFrame) × Int) :=
 (some d109).bind fun d114 =>
 some (d114,[],0)
def postTake_j5 (y134:Int) (rec135:GCase→Int→Option (GCase × (List GFrame) × Int)) (d144:GCase):Option (GCase × (List GFrame) × Int) :=
 rec135 d144 (IntKind.wrap .i64 (y134+1))
def postTake_j6 (x3:GFrame) (d133:GCase) (y134:Int) (rec135:GCase→Int→Option (GCase × (List GFrame) × Int)) (x148:Int) (c152:Bool):Option (GCase × (List GFrame) × Int) :=
 (bif c152 then
 (idx x3.vals y134).bind fun x160 =>
 (inR x148 4).bind fun _ =>
 (idxV d133.has x148).bind fun x165 =>
 (setV d133.has x148 true).bind fun a167 =>
 (some ({ d133 with has:=a167 }:GCase)).bind fun d169 =>
 (inR x148 4).bind fun _ =>
 (idxV d169.values x148).bind fun x175 =>
 (setV d169.values x148 x160).bind fun a177 =>
 (some ({ d169 with values:=a177 }:GCase)).bind fun d179 =>
 postTake_j5 y134 rec135 d179
 else
 postTake_j5 y134 rec135 d133)
def postTake_l1 (x3:GFrame):Nat→GCase→Int→Option (GCase × (List GFrame) × Int)
 | 0,_,_=>none
 | n+1,d133,y134 =>
 (bif decide (y134<(x3.at_.length:Int)) then
 (idx x3.at_ y134).bind fun x148 =>
 (bif d133.fixed then
 (bif decide (x148<(d133.ops.length:Int)) then
 (idx d133.ops x148).bind fun x191 =>
 (some (shardZ x191.key)).bind fun r194 =>
 (some (ofZ x3.node)).bind fun r198 =>
 (bif r194==r198 then
 (inR x148 4).bind fun _ =>
 (idxV d133.has x148).bind fun x203 =>
 postTake_j6 x3 d133 y134 (postTake_l1 x3 n) x148 (!x203)
 else
 postTake_j6 x3 d133 y134 (postTake_l1 x3 n) x148 false)
 else
 postTake_j6 x3 d133 y134 (postTake_l1 x3 n) x148 false)
 else
 postTake_j6 x3 d133 y134 (postTake_l1 x3 n) x148 false)
 else
 (some d133).bind fun d208 =>
 some (d208,[],0))
def postTake_j1 (fu:Nat) (x1:GCase) (x2:Int) (x3:GFrame) (d14:GCase):Option (GCase × (List GFrame) × Int) :=
 (some (frameZ x3)).bind fun r19 =>
 (bif r19 != 0 then
 (some x1).bind fun d24 =>
 some (d24,[],r19)
 else
 (bif x3.kind==2 then
 (bif x1.fixed then
 postTake_j3 fu x1 x2 x3 d14 true
 else
 (inR x3.node 6).bind fun _ =>
 (idxV x1.told x3.node).bind fun x92 =>
 (bif x92 then
 postTake_j3 fu x1 x2 x3 d14 true
 else
 (some (ofZ x3.node)).bind fun r98 =>
 (some (touchesZ x1.ops r98)).bind fun r102 =>
 postTake_j3 fu x1 x2 x3 d14 (!r102)))
 else
 (bif x3.kind==4 then
 (bif x1.fixed then
 (inR x3.node 6).bind fun _ =>
 (idxV x1.known x3.node).bind fun x121 =>
 (setV x1.known x3.node true).bind fun a123 =>
 (some ({ x1 with known:=a123 }:GCase)).bind fun d125 =>
 postTake_j4 d125
 else
 postTake_j4 x1)
 else
 (bif x3.kind==5 then
 postTake_l1 x3 fu x1 0
 else
 (some x1).bind fun d212 =>
 some (d212,[],3)))))
def postTake_j7 (fu:Nat) (x1:GCase) (x2:Int) (x3:GFrame) (c217:Bool):Option (GCase × (List GFrame) × Int) :=
 (bif c217 then
 (some x1).bind fun d223 =>
 some (d223,[],2)
 else
 postTake_j1 fu x1 x2 x3 (Zr.zd:GCase))
def postTakeD (fu:Nat) (x1:GCase) (x2:Int) (x3:GFrame):Option (GCase × (List GFrame) × Int) :=
 (postGoodD fu x1).bind fun r228 =>
 (bif !r228 then
 postTake_j7 fu x1 x2 x3 true
 else
 (bif !x1.begun then
 postTake_j7 fu x1 x2 x3 true
 else
 (bif x3.id != x2 then
 postTake_j7 fu x1 x2 x3 true
 else
 (some (hasZ x1.deps x2)).bind fun r235 =>
 postTake_j7 fu x1 x2 x3 r235)))
set_option maxRecDepth 100000 in
set_option maxHeartbeats 4000000 in
theorem postTake_ok {M:Mm} {w:World} {cx1:List Value} {cx3:List Value} {x1:GCase} {x2:Int} {x3:GFrame} {fu:Nat} {r:GCase × (List GFrame) × Int} (hA:Agree M w) (hcx1:rep M cx1 x1) (hcx3:rep M cx3 x3) (hz:postTakeD fu x1 x2 x3=some r) :
    Calls Try.prog 69 #[.agg cx1.toArray,.int .i64 x2,.agg cx3.toArray] w (Gives M w (fun M' u => ∃ c0 v1,u = .tuple #[.agg c0.toArray,v1,.int .i64 r.2.2]∧rep M' c0 r.1∧repL M' v1 r.2.1)):=by
 refine Zh Try.func69 rfl 146 rfl rfl (by kernel_rfl) fun T hT => ?_
 have hT_0:T 0 = .agg cx1.toArray:=hT 0
 have hT_1:T 1 = .int .i64 x2:=hT 1
 have hT_2:T 2 = .agg cx3.toArray:=hT 2
 clear hT
 have hE:=Qg w.heap.size noX M
 have hS:St w noX M [] w:=Zv hA
 rw [postTakeD] at hz
 refine Qh <|Qi ?_
 refine Qu (Yo (v := .agg cx1.toArray) (cs:=cx1) hT_0 rfl hS ?_)
 intro b5 w4 hb5 hS
 refine Qu (Yo (v := .agg cx3.toArray) (cs:=cx3) hT_2 rfl hS ?_)
 intro b7 w6 hb7 hS
 refine Qu (Zf tz49 hS ?_)
 intro b9 w8 hb9 hS
 have zb9:rep M (Zr.zc GCase) (Zr.zd:GCase):=Zr.zr
 refine Q2 2 rfl ?_
 refine Qf (Qa ?_)
 refine Qz (fun T' w' => ∃ M11 cs13 d14,Mm.ext w.heap.size noX M M11∧St w noX M11 [.box b9 cs13 49,.box b7 cx3 118,.box b5 cx1 49] w'∧rep M11 cs13 d14∧T' 1 = .int .i64 x2∧T' 3 = .pointer (some ⟨b5,0,none⟩)∧T' 5 = .pointer (some ⟨b7,0,none⟩)∧T' 6 = .pointer (some ⟨b9,0,none⟩)∧postTake_j1 fu x1 x2 x3 d14=some r) ?_ ?_
 have hF213:=Qg w.heap.size noX M
 refine Qy ?_
 refine Qz (fun T' w' => ∃ M215 c217,Mm.ext w.heap.size noX M M215∧St w noX M215 [.box b9 (Zr.zc GCase) 49,.box b7 cx3 118,.box b5 cx1 49] w'∧T' 1 = .int .i64 x2∧T' 3 = .pointer (some ⟨b5,0,none⟩)∧T' 5 = .pointer (some ⟨b7,0,none⟩)∧T' 6 = .pointer (some ⟨b9,0,none⟩)∧T' 12 = .bool c217∧postTake_j7 fu x1 x2 x3 c217=some r) ?_ ?_
 have hF224:=Qg w.heap.size noX M
 refine Qi ?_
 have ha225:=(rr hcx1)
 refine Qd (Zg Vb rfl (hS.bvB 2 rfl) (Rep.len ha225)) ?_
 obtain ⟨r228,hr227,hz⟩:=Qb hz
 refine Qu (Z4 (vs:=[.agg (sl cx1 (0) 24).toArray]) (v := .bool r228) cb39 (Zu rfl) hS (postGood_ok hS.agree ha225 hr227) ?_)
 intro w226 hS
 refine Qd (Ye rfl) <|Qd (Qe (.bool (!r228)) rfl) ?_
 rcases ic hz with ⟨hc229,hz⟩ | ⟨hc229,hz⟩<;>rw [hc229]
 refine Q2 17 rfl ?_
 refine Qf (Qa ?_)
 exact ⟨M,true,hF224,hS,hT_1,rfl,rfl,rfl,rfl,hz⟩
 refine Qk rfl rfl (Qp fa49_0 rfl) <|Qk rfl rfl (Ql (.bool x1.begun) Jk rfl (hS.bvB 2 rfl) (GCase.p0 (rr hcx1))) <|Qk rfl rfl (Ye rfl) <|Q2 2 rfl ?_
 rcases ic hz with ⟨hc230,hz⟩ | ⟨hc230,hz⟩<;>rw [hc230]
 refine Q2 12 rfl ?_
 refine Qf (Qa ?_)
 exact ⟨M,true,hF224,hS,hT_1,rfl,rfl,rfl,rfl,hz⟩
 refine Qk rfl rfl (Qp Yl rfl) <|Qk rfl rfl (Ql (.int .i64 x3.id) Z5 rfl (hS.bvB 1 rfl) (Yb (rr hcx3))) <|Qk rfl rfl (Qe (.int .i64 x2) hT_1) <|Qk rfl rfl (Yp rfl rfl) <|Q2 2 rfl ?_
 rcases ic hz with ⟨hc231,hz⟩ | ⟨hc231,hz⟩<;>rw [hc231]
 refine Q2 6 rfl ?_
 refine Qf (Qa ?_)
 exact ⟨M,true,hF224,hS,hT_1,rfl,rfl,rfl,rfl,hz⟩
 refine Qk rfl rfl (Qp K6 rfl) ?_
 obtain ⟨v232,ev232,hv232⟩:=(V7 (rr hcx1))
 refine Qk rfl rfl (Ql v232 Z2 rfl (hS.bvB 2 rfl) ev232) <|Qk rfl rfl (Qe (.int .i64 x2) hT_1) ?_
 obtain ⟨r235,hr234,hz⟩:=Qb hz
 replace hr234:=Option.some.inj hr234
 refine Km rfl rfl (Z4 (vs:=[v232,.int .i64 x2]) (v := .bool r235) cb62 (Ya rfl rfl) hS (hr234 ▸ (Vr hS.agree hv232)) ?_)
 intro w233 hS
 refine Q2 2 rfl ?_
 refine Qf (Qa ?_)
 exact ⟨M,r235,hF224,hS,hT_1,rfl,rfl,rfl,rfl,hz⟩
 rintro T216 w214 ⟨M215,c217,hx218,hS,hT216_1,hT216_3,hT216_5,hT216_6,hT216_12,hz⟩
 replace hcx1:=Rep.mono hx218.1 hcx1
 replace zb9:=Rep.mono hx218.1 zb9
 replace hE:=Qc hE hx218
 replace hF213:=Qc hF213 hx218
 rw [postTake_j7] at hz
 refine Qr hT216_12 (fun hc219 => ?_) (fun hc219 => ?_)
 replace hz:=Qn hz hc219
 refine Qh <|Qi ?_
 have ha220:=(rr hcx1)
 refine Qd (Zg Vb hT216_3 (hS.bvB 2 rfl) (Rep.len ha220)) ?_
 obtain ⟨d223,hd222,hz⟩:=Qb hz
 refine Qu (Q8 0 24 hS rfl zb9 hT216_6 rfl ha220 rfl rfl (Lf (rr zb9) ha220) hd222 ?_)
 intro cs222 w221 hb222 ha222 hs222 hS
 refine Q2 2 rfl ?_
 refine Qf (Qa ?_)
 cases hz
 exact Q4 (Zi (Qs (V9 (j:=0) rfl hT216_6 rfl rfl (by rw [Rep.len hb222];exact Vb) hS rfl (Zj (Qm (Qm (Qm hS))) hE ⟨_,_,rfl,hb222,(Z3 _)⟩))))
 replace hz:=Qo hz hc219
 refine Qv (Q7 ?_)
 refine (Qa ?_)
 exact ⟨M215,(Zr.zc GCase),(Zr.zd:GCase),hF213,hS,zb9,hT216_1,hT216_3,hT216_5,hT216_6,hz⟩
 rintro T12 w10 ⟨M11,cs13,d14,hx15,hS,hb13,hT12_1,hT12_3,hT12_5,hT12_6,hz⟩
 replace hcx1:=Rep.mono hx15.1 hcx1
 replace hcx3:=Rep.mono hx15.1 hcx3
 replace hE:=Qc hE hx15
 rw [postTake_j1] at hz
 refine Qh <|Qh <|Qi ?_
 have ha16:=(rr hcx3)
 refine Qd (Zg K4 hT12_5 (hS.bvB 1 rfl) (Rep.len ha16)) ?_
 obtain ⟨r19,hr18,hz⟩:=Qb hz
 replace hr18:=Option.some.inj hr18
 refine Qu (Z4 (vs:=[.agg (sl cx3 (0) 7).toArray]) (v := .int .i64 r19) cb80 (Zu rfl) hS (hr18 ▸ (c_good hS.agree ha16)) ?_)
 intro w17 hS
 refine Qd (Qj (.int .i64 r19) rfl) ?_
 refine Qf (Qa ?_)
 refine Qh <|Qi <|Qd (Qe (.int .i64 r19) rfl) <|Qd (Yp rfl rfl) ?_
 refine Qf (Qa ?_)
 refine Qr rfl (fun hc20 => ?_) (fun hc20 => ?_)
 replace hz:=Qn hz hc20
 refine Qh <|Qi ?_
 have ha21:=(rr hcx1)
 refine Qd (Zg Vb hT12_3 (hS.bvB 2 rfl) (Rep.len ha21)) <|Qd (Qe (.int .i64 r19) rfl) ?_
 obtain ⟨d24,hd23,hz⟩:=Qb hz
 refine Qu (Q8 0 24 hS rfl hb13 hT12_6 rfl ha21 rfl rfl (Lf (rr hb13) ha21) hd23 ?_)
 intro cs23 w22 hb23 ha23 hs23 hS
 refine Q2 2 rfl ?_
 refine Qf (Qa ?_)
 cases hz
 exact Q4 (Qs (V9 (j:=0) rfl hT12_6 rfl rfl (by rw [Rep.len hb23];exact Vb) hS rfl (Zj (Qm (Qm (Qm hS))) hE ⟨_,_,rfl,hb23,(Z3 _)⟩)))
 replace hz:=Qo hz hc20
 refine Qv (Qa ?_)
 refine Qh <|Qh <|Qi <|Qd (Qp Vx hT12_5) <|Qd (Ql (.int .i64 x3.kind) Z5 rfl (hS.bvB 1 rfl) (Y2 (rr hcx3))) ?_
 refine Qf (Qa ?_)
 refine Qy <|Qh <|Qi <|Qd (Yc rfl rfl) <|Qd (Qj (.bool (x3.kind==2)) rfl) ?_
 refine Qf (Qa ?_)
 refine Qr rfl (fun hc25 => ?_) (fun hc25 => ?_)
 replace hz:=Qn hz hc25
 refine Qz (fun T' w' => ∃ M27 cs29 d30,Mm.ext w.heap.size noX M11 M27∧St w noX M27 [.box b9 cs29 49,.box b7 cx3 118,.box b5 cx1 49] w'∧rep M27 cs29 d30∧T' 1 = .int .i64 x2∧T' 3 = .pointer (some ⟨b5,0,none⟩)∧T' 5 = .pointer (some ⟨b7,0,none⟩)∧T' 6 = .pointer (some ⟨b9,0,none⟩)∧postTake_j2 fu x1 x2 x3 d30=some r) ?_ ?_
 have hF74:=Qg w.heap.size noX M11
 refine Qz (fun T' w' => ∃ M76 c78,Mm.ext w.heap.size noX M11 M76∧St w noX M76 [.box b9 cs13 49,.box b7 cx3 118,.box b5 cx1 49] w'∧T' 1 = .int .i64 x2∧T' 3 = .pointer (some ⟨b5,0,none⟩)∧T' 5 = .pointer (some ⟨b7,0,none⟩)∧T' 6 = .pointer (some ⟨b9,0,none⟩)∧T' 61 = .bool c78∧postTake_j3 fu x1 x2 x3 d14 c78=some r) ?_ ?_
 have hF85:=Qg w.heap.size noX M11
 refine Yt [.box b7 cx3 118,.box b5 cx1 49] [] Z6 hS fun w86 hS hG87 hR88=>wy 0 rfl (Qp Jl hT12_3) (fun _=>hR88) <|Y6 1 rfl (Ql (.bool x1.fixed) Jk rfl (Ym 1 rfl) (Kg (rr hcx1))) hR88 <|wy 2 rfl (Qe (.bool x1.fixed) rfl) (fun _=>hR88) ?_
 rcases ic hz with ⟨hc89,hz⟩ | ⟨hc89,hz⟩<;>rw [hc89]
 refine Yg 3 (j:=2) rfl rfl rfl rfl (fun _=>hR88) <|Yg 4 (j:=2) rfl rfl rfl rfl (fun _=>hR88) <|Yg 5 (j:=2) rfl rfl rfl rfl (fun _=>hR88) <|Yg 6 (j:=2) rfl rfl rfl rfl (fun _=>hR88) <|Yg 7 (j:=2) rfl rfl rfl rfl (fun _=>hR88) <|wy 8 rfl (Zp (.bool true) rfl rfl) (fun _=>hR88) <|wy 9 rfl (Qe (.bool true) rfl) (fun _=>hR88) <|Yg 10 (j:=9) rfl rfl rfl rfl (fun _=>hR88) <|Yg 11 (j:=9) rfl rfl rfl rfl (fun _=>hR88) <|Yg 12 (j:=9) rfl rfl rfl rfl (fun _=>hR88) <|Yg 13 (j:=9) rfl rfl rfl rfl (fun _=>hR88) <|Yg 14 (j:=9) rfl rfl rfl rfl (fun _=>hR88) <|Yg 15 (j:=9) rfl rfl rfl rfl (fun _=>hR88) <|Yg 16 (j:=9) rfl rfl rfl rfl (fun _=>hR88) <|wy 17 rfl (Zp (.bool true) rfl rfl) (fun _=>hR88) ?_
 refine wd (Qa ?_)
 exact ⟨M11,true,hF85,hS,hT12_1,hT12_3,hT12_5,hT12_6,rfl,hz⟩
 refine Vq 3 rfl rfl rfl (Qp Ka hT12_5) (fun _=>hR88) <|Kh 4 rfl rfl rfl (Ql (.int .i64 x3.node) Z5 rfl (Ym 0 rfl) (Vg (rr hcx3))) hR88 <|Vq 5 rfl rfl rfl (Qp fa49_3 hT12_3) (fun _=>hR88) ?_
 obtain ⟨u90,hx91,hz⟩:=Qb hz
 obtain ⟨hx91a,hx91b⟩:=Qt hx91
 refine Vq 6 rfl rfl rfl (Za Jq rfl rfl hx91a hx91b) (fun _=>hR88) ?_
 obtain ⟨x92,hx93,hz⟩:=Qb hz
 refine Kh 7 rfl rfl rfl (Ql (.bool x92) Jk rfl (Ym 1 rfl) (vp (k:=1) rfl rfl (K7 (rr hcx1)) hx93)) hR88 <|wy 8 rfl (Ze (.bool x92) rfl rfl) (fun _=>hR88) <|wy 9 rfl (Qe (.bool x92) rfl) (fun _=>hR88) ?_
 rcases ic hz with ⟨hc94,hz⟩ | ⟨hc94,hz⟩<;>rw [hc94]
 refine Yg 10 (j:=9) rfl rfl rfl rfl (fun _=>hR88) <|Yg 11 (j:=9) rfl rfl rfl rfl (fun _=>hR88) <|Yg 12 (j:=9) rfl rfl rfl rfl (fun _=>hR88) <|Yg 13 (j:=9) rfl rfl rfl rfl (fun _=>hR88) <|Yg 14 (j:=9) rfl rfl rfl rfl (fun _=>hR88) <|Yg 15 (j:=9) rfl rfl rfl rfl (fun _=>hR88) <|Yg 16 (j:=9) rfl rfl rfl rfl (fun _=>hR88) <|wy 17 rfl (Zp (.bool true) rfl rfl) (fun _=>hR88) ?_
 refine wd (Qa ?_)
 exact ⟨M11,true,hF85,hS,hT12_1,hT12_3,hT12_5,hT12_6,rfl,hz⟩
 refine Vq 10 rfl rfl rfl (Qp Vy hT12_3) (fun _=>hR88) ?_
 obtain ⟨v95,ev95,hv95⟩:=(Yw (rr hcx1))
 refine Kh 11 rfl rfl rfl (Ql v95 Vn rfl (Ym 1 rfl) ev95) hR88 <|Vq 12 rfl rfl rfl (Qp Ka hT12_5) (fun _=>hR88) <|Kh 13 rfl rfl rfl (Ql (.int .i64 x3.node) Z5 rfl (Ym 0 rfl) (Vg (rr hcx3))) hR88 ?_
 obtain ⟨r98,hr97,hz⟩:=Qb hz
 replace hr97:=Option.some.inj hr97
 refine w1g 14 rfl rfl rfl (Z4 (vs:=[.int .i64 x3.node]) (v := .int .i64 r98) cb72 (Zu rfl) hS (hr97 ▸ (c_of)) ?_)
 intro w96 hS
 refine Yr hS hG87 fun hR99 => ?_
 obtain ⟨r102,hr101,hz⟩:=Qb hz
 replace hr101:=Option.some.inj hr101
 refine w1g 15 rfl rfl rfl (Z4 (vs:=[v95,.int .i64 r98]) (v := .bool r102) cb71 (Ya rfl rfl) hS (hr101 ▸ (Jb hS.agree hv95)) ?_)
 intro w100 hS
 refine Yr hS hG87 fun hR103=>Vq 16 rfl rfl rfl (Ye rfl) (fun _=>hR103) <|wy 17 rfl (Ze (.bool (!r102)) rfl rfl) (fun _=>hR103) ?_
 refine wd (Qa ?_)
 exact ⟨M11,(!r102),hF85,hS,hT12_1,hT12_3,hT12_5,hT12_6,rfl,hz⟩
 rintro T77 w75 ⟨M76,c78,hx79,hS,hT77_1,hT77_3,hT77_5,hT77_6,hT77_61,hz⟩
 replace hcx1:=Rep.mono hx79.1 hcx1
 replace hb13:=Rep.mono hx79.1 hb13
 replace hE:=Qc hE hx79
 replace hF74:=Qc hF74 hx79
 rw [postTake_j3] at hz
 refine Qr hT77_61 (fun hc80 => ?_) (fun hc80 => ?_)
 replace hz:=Qn hz hc80
 refine Qh <|Qi ?_
 have ha81:=(rr hcx1)
 refine Qd (Zg Vb hT77_3 (hS.bvB 2 rfl) (Rep.len ha81)) ?_
 obtain ⟨d84,hd83,hz⟩:=Qb hz
 refine Qu (Q8 0 24 hS rfl hb13 hT77_6 rfl ha81 rfl rfl (Lf (rr hb13) ha81) hd83 ?_)
 intro cs83 w82 hb83 ha83 hs83 hS
 refine Q2 2 rfl ?_
 refine Qf (Qa ?_)
 cases hz
 exact Q4 (Qs (Zi (Qs (V9 (j:=0) rfl hT77_6 rfl rfl (by rw [Rep.len hb83];exact Vb) hS rfl (Zj (Qm (Qm (Qm hS))) hE ⟨_,_,rfl,hb83,(Z3 _)⟩)))))
 replace hz:=Qo hz hc80
 refine Qv (Qa ?_)
 exact ⟨M76,cs13,d14,hF74,hS,hb13,hT77_1,hT77_3,hT77_5,hT77_6,hz⟩
 rintro T28 w26 ⟨M27,cs29,d30,hx31,hS,hb29,hT28_1,hT28_3,hT28_5,hT28_6,hz⟩
 replace hcx1:=Rep.mono hx31.1 hcx1
 replace hcx3:=Rep.mono hx31.1 hcx3
 rw [postTake_j2] at hz
 refine Qh <|Qi <|Qd (Qp Ka hT28_5) <|Qd (Ql (.int .i64 x3.node) Z5 rfl (hS.bvB 1 rfl) (Vg (rr hcx3))) <|Qd (Qp fa49_3 hT28_3) ?_
 obtain ⟨u32,hx33,hz⟩:=Qb hz
 obtain ⟨hx33a,hx33b⟩:=Qt hx33
 refine Qd (Za Jq rfl rfl hx33a hx33b) ?_
 obtain ⟨x36,hx37,hz⟩:=Qb hz
 obtain ⟨a38,hx39,hz⟩:=Qb hz
 obtain ⟨d40,hd35,hz⟩:=Qb hz
 refine Qu (Q8 2 1 hS rfl hcx1 rfl rfl (rb true:rep M27 _ _) rfl rfl (GCase.u3 (rr hcx1) (vu (k:=1) rfl rfl (K7 (rr hcx1)) (Lf (vp (k:=1) rfl rfl (K7 (rr hcx1)) hx37) (rb true:rep M27 _ _)) hx39)) hd35 ?_)
 intro cs35 w34 hb35 ha35 hs35 hS
 refine Qf (Qa ?_)
 refine Qh <|Qi <|Qd (Qp K6 hT28_3) ?_
 obtain ⟨v41,ev41,hv41⟩:=(V7 (rr hb35))
 refine Qd (Ql v41 Z2 rfl (hS.bvB 2 rfl) ev41) <|Qd (Qp Y5 hT28_5) ?_
 obtain ⟨v42,ev42,hv42⟩:=(Yi (rr hcx3))
 refine Qd (Ql v42 Z2 rfl (hS.bvB 1 rfl) ev42) ?_
 obtain ⟨r45,hr44,hz⟩:=Qb hz
 replace hr44:=Option.some.inj hr44
 refine Qu (Y1 (vs:=[v41,v42]) (rv:=(fun M' u=>repL M' u r45)) cb84 (Ya rfl rfl) hS (hr44 ▸ (c_union hS.agree hv41 hv42)) ?_)
 intro u44 M44 w43 hx44 hu44 hS
 have h44:repL M44 u44 r45:=hu44
 replace hb29:=Rep.mono hx44.1 hb29
 replace hb35:=Rep.mono hx44.1 hb35
 replace hE:=Qc hE (hx31.trans hx44)
 refine Qd (Qp K6 hT28_3) ?_
 obtain ⟨d48,hd47,hz⟩:=Qb hz
 refine Qu (Q8 2 1 hS rfl hb35 rfl rfl (Q1 h44) (Q9 h44) rfl (GCase.u5 (rr hb35) (Lf (V7 (rr hb35)) (Q1 h44))) hd47 ?_)
 intro cs47 w46 hb47 ha47 hs47 hS
 refine Qf (Qa ?_)
 refine Qh <|Qh <|Qi ?_
 have ha49:=(rr hb47)
 refine Qd (Zg Vb hT28_3 (hS.bvB 2 rfl) (Rep.len ha49)) ?_
 obtain ⟨r52,hr51,hz⟩:=Qb hz
 refine Qu (Z4 (vs:=[.agg (sl cs47 (0) 24).toArray]) (v := .bool r52) cb85 (Zu rfl) hS (enough_ok hS.agree ha49 hr51) ?_)
 intro w50 hS
 refine Qd (Qp Jl hT28_3) ?_
 obtain ⟨d55,hd54,hz⟩:=Qb hz
 refine Qu (Q8 2 1 hS rfl hb47 rfl rfl (rb r52:rep M44 _ _) rfl rfl (GCase.u1 (rr hb47) (Lf (Kg (rr hb47)) (rb r52:rep M44 _ _))) hd54 ?_)
 intro cs54 w53 hb54 ha54 hs54 hS
 refine Qf (Qa ?_)
 refine Qh <|Qi <|Qd (Qp Jl hT28_3) <|Qd (Ql (.bool d55.fixed) Jk rfl (hS.bvB 2 rfl) (Kg (rr hb54))) <|Qd (Ye rfl) ?_
 refine Qf (Qa ?_)
 refine Qr rfl (fun hc56 => ?_) (fun hc56 => ?_)
 replace hz:=Qn hz hc56
 refine Qh <|Qi ?_
 have ha57:=(rr hb54)
 refine Qd (Zg Vb hT28_3 (hS.bvB 2 rfl) (Rep.len ha57)) ?_
 obtain ⟨d60,hd59,hz⟩:=Qb hz
 refine Qu (Q8 0 24 hS rfl hb29 hT28_6 rfl ha57 rfl rfl (Lf (rr hb29) ha57) hd59 ?_)
 intro cs59 w58 hb59 ha59 hs59 hS
 refine Q2 2 rfl ?_
 refine Qf (Qa ?_)
 cases hz
 exact Q4 (Qs (Zi (Qs (V9 (j:=0) rfl hT28_6 rfl rfl (by rw [Rep.len hb59];exact Vb) hS rfl (Zj (Qm (Qm (Qm hS))) hE ⟨_,_,rfl,hb59,(Z3 _)⟩)))))
 replace hz:=Qo hz hc56
 refine Qv (Qa ?_)
 refine Qh <|Yt [.box b5 cs54 49] [] Z6 hS fun w61 hS hG62 hR63 => ?_
 have ha64:=(rr hb54)
 refine Y6 0 rfl (Zg Vb hT28_3 (Ym 0 rfl) (Rep.len ha64)) hR63 ?_
 have ha65:=(rr hb54)
 refine Y6 1 rfl (Zg Vb hT28_3 (Ym 0 rfl) (Rep.len ha65)) hR63 <|wy 2 rfl (Qe (.int .i64 x2) hT28_1) (fun _=>hR63) ?_
 obtain ⟨r68,hr67,hz⟩:=Qb hz
 refine w1 3 rfl (Y1 (vs:=[.agg (sl cs54 (0) 24).toArray,.int .i64 x2]) (rv:=(fun M' u=>repL M' u r68)) cb50 (Ya rfl rfl) hS (again_ok hS.agree ha65 hr67) ?_)
 intro u67 M67 w66 hx67 hu67 hS
 have f67:repL M67 u67 r68:=hu67
 replace hb29:=Rep.mono hx67.1 hb29
 replace ha64:=Rep.mono hx67.1 ha64
 replace hE:=Qc hE hx67
 replace hG62:=Qc hG62 hx67
 refine Yr hS hG62 fun hR69 => ?_
 obtain ⟨d72,hd71,hz⟩:=Qb hz
 refine w1 4 rfl (Q8 0 24 hS rfl hb29 hT28_6 rfl ha64 rfl rfl (Lf (rr hb29) ha64) hd71 ?_)
 intro cs71 w70 hb71 ha71 hs71 hS
 refine Yr hS hG62 fun hR73=>wy 5 rfl (Qj (u67) rfl) (fun _=>hR73) <|wy 6 rfl (Qj (.int .i64 0) rfl) (fun _=>hR73) ?_
 refine wd (Qa ?_)
 cases hz
 exact Q4 (Zi (Qs (V9 (j:=0) rfl hT28_6 rfl rfl (by rw [Rep.len hb71];exact Vb) hS rfl (Zj (Qm (Qm (Qm hS))) hE ⟨_,_,rfl,hb71,f67⟩))))
 replace hz:=Qo hz hc25
 refine Qh <|Qi <|Qd (Yc rfl rfl) <|Qd (Qj (.bool (x3.kind==4)) rfl) ?_
 refine Qf (Qa ?_)
 refine Qr rfl (fun hc104 => ?_) (fun hc104 => ?_)
 replace hz:=Qn hz hc104
 refine Qz (fun T' w' => ∃ M106 cs108 d109,Mm.ext w.heap.size noX M11 M106∧St w noX M106 [.box b9 cs13 49,.box b7 cx3 118,.box b5 cs108 49] w'∧rep M106 cs108 d109∧T' 3 = .pointer (some ⟨b5,0,none⟩)∧T' 6 = .pointer (some ⟨b9,0,none⟩)∧postTake_j4 d109=some r) ?_ ?_
 have hF115:=Qg w.heap.size noX M11
 refine Qh <|Qi <|Qd (Qp Jl hT12_3) <|Qd (Ql (.bool x1.fixed) Jk rfl (hS.bvB 2 rfl) (Kg (rr hcx1))) ?_
 refine Qf (Qa ?_)
 refine Qr rfl (fun hc116 => ?_) (fun hc116 => ?_)
 replace hz:=Qn hz hc116
 refine Qi <|Qd (Qp Ka hT12_5) <|Qd (Ql (.int .i64 x3.node) Z5 rfl (hS.bvB 1 rfl) (Vg (rr hcx3))) <|Qd (Qp fa49_4 hT12_3) ?_
 obtain ⟨u117,hx118,hz⟩:=Qb hz
 obtain ⟨hx118a,hx118b⟩:=Qt hx118
 refine Qd (Za Jq rfl rfl hx118a hx118b) ?_
 obtain ⟨x121,hx122,hz⟩:=Qb hz
 obtain ⟨a123,hx124,hz⟩:=Qb hz
 obtain ⟨d125,hd120,hz⟩:=Qb hz
 refine Qu (Q8 2 1 hS rfl hcx1 rfl rfl (rb true:rep M11 _ _) rfl rfl (GCase.u4 (rr hcx1) (vu (k:=1) rfl rfl (GCase.p4 (rr hcx1)) (Lf (vp (k:=1) rfl rfl (GCase.p4 (rr hcx1)) hx122) (rb true:rep M11 _ _)) hx124)) hd120 ?_)
 intro cs120 w119 hb120 ha120 hs120 hS
 refine Qf (Qa ?_)
 exact ⟨M11,cs120,d125,hF115,hS,hb120,hT12_3,hT12_6,hz⟩
 replace hz:=Qo hz hc116
 refine Qv (Qa ?_)
 exact ⟨M11,cx1,x1,hF115,hS,hcx1,hT12_3,hT12_6,hz⟩
 rintro T107 w105 ⟨M106,cs108,d109,hx110,hS,hb108,hT107_3,hT107_6,hz⟩
 replace hb13:=Rep.mono hx110.1 hb13
 replace hE:=Qc hE hx110
 rw [postTake_j4] at hz
 refine Qh <|Qi ?_
 have ha111:=(rr hb108)
 refine Qd (Zg Vb hT107_3 (hS.bvB 2 rfl) (Rep.len ha111)) ?_
 obtain ⟨d114,hd113,hz⟩:=Qb hz
 refine Qu (Q8 0 24 hS rfl hb13 hT107_6 rfl ha111 rfl rfl (Lf (rr hb13) ha111) hd113 ?_)
 intro cs113 w112 hb113 ha113 hs113 hS
 refine Q2 2 rfl ?_
 refine Qf (Qa ?_)
 cases hz
 exact Q4 (Zi (Qs (V9 (j:=0) rfl hT107_6 rfl rfl (by rw [Rep.len hb113];exact Vb) hS rfl (Zj (Qm (Qm (Qm hS))) hE ⟨_,_,rfl,hb113,(Z3 _)⟩))))
 replace hz:=Qo hz hc104
 refine Qh <|Qi <|Qd (Yc rfl rfl) <|Qd (Qj (.bool (x3.kind==5)) rfl) ?_
 refine Qf (Qa ?_)
 refine Qr rfl (fun hc126 => ?_) (fun hc126 => ?_)
 replace hz:=Qn hz hc126
 refine Qh <|Qh <|Qi <|Qd (Qp Kb hT12_5) ?_
 obtain ⟨v127,ev127,hv127⟩:=(Vh (rr hcx3))
 refine Qd (Ql v127 Z2 rfl (hS.bvB 1 rfl) ev127) ?_
 obtain ⟨a128,c128,hv128,_⟩:=Q3 hv127
 refine Qd (Zk Qq (Vw hv128 rfl)) <|Qd (Qe (.int .i64 0) rfl) ?_
 refine Qf (Qa ?_)
 refine Qy ?_
 refine Zy (fun k136 T' w' => ∃ M130 cs132 d133 y134,Mm.ext w.heap.size noX M11 M130∧St w noX M130 [.box b9 cs13 49,.box b7 cx3 118,.box b5 cs132 49] w'∧rep M130 cs132 d133∧T' 3 = .pointer (some ⟨b5,0,none⟩)∧T' 5 = .pointer (some ⟨b7,0,none⟩)∧T' 6 = .pointer (some ⟨b9,0,none⟩)∧T' 96=v127∧T' 97 = .int .i64 (x3.at_.length:Int)∧T' 98 = .int .i64 y134∧postTake_l1 x3 k136 d133 y134=some r) fu ?_ ?_ ?_
 exact ⟨M11,cx1,x1,(0:Int),(Qg _ _ _),hS,hcx1,hT12_3,hT12_5,hT12_6,rfl,rfl,rfl,hz⟩
 rintro T' w' ⟨_,_,_,_,_,_,_,_,_,_,_,_,_,hz⟩
 rw [postTake_l1] at hz
 cases hz
 intro k136
 rintro T131 w129 ⟨M130,cs132,d133,y134,hx138,hS,hb132,hT131_3,hT131_5,hT131_6,hT131_96,hT131_97,hT131_98,hz⟩
 replace hcx3:=Rep.mono hx138.1 hcx3
 replace hb13:=Rep.mono hx138.1 hb13
 replace hv127:=Qw hx138.1 hv127
 replace hE:=Qc hE hx138
 have hF137:=hx138
 rw [postTake_l1] at hz
 obtain ⟨rec135,hrec135⟩ : ∃ f,f=postTake_l1 x3 k136:=⟨_,rfl⟩
 rw [← hrec135] at hz
 refine Qh <|Qi <|Qd (Zq hT131_98 hT131_97) ?_
 refine Qf (Qa ?_)
 refine Qh ?_
 refine Qr rfl (fun hc139 => ?_) (fun hc139 => ?_)
 replace hz:=Qn hz hc139
 refine Qv (Qa ?_)
 refine Qz (fun T' w' => ∃ M141 cs143 d144,Mm.ext w.heap.size noX M130 M141∧St w noX M141 [.box b9 cs13 49,.box b7 cx3 118,.box b5 cs143 49] w'∧rep M141 cs143 d144∧T' 3 = .pointer (some ⟨b5,0,none⟩)∧T' 5 = .pointer (some ⟨b7,0,none⟩)∧T' 6 = .pointer (some ⟨b9,0,none⟩)∧T' 96=v127∧T' 97 = .int .i64 (x3.at_.length:Int)∧T' 98 = .int .i64 y134∧postTake_j5 y134 rec135 d144=some r) ?_ ?_
 have hF146:=Qg w.heap.size noX M130
 refine Qy <|Qh <|Qi <|Qd (Qe (.int .i64 y134) hT131_98) ?_
 obtain ⟨x148,hx147,hz⟩:=Qb hz
 obtain ⟨b147,o147,c147,p147,hv147,hi147,hj147,hM147,hr147⟩:=Yd hv127 hx147
 replace hr147:rep _ (sl p147 (o147+Int.toNat y134*1) 1) x148:=hr147
 refine Qd (Yq V6 hT131_96 hv147 hT131_98 hi147 hj147) <|Qd (Ql (.int .i64 x148) Z5 rfl (hS.bvM hM147) hr147) <|Q2 2 rfl ?_
 refine Qf (Qa ?_)
 refine Qz (fun T' w' => ∃ M150 c152,Mm.ext w.heap.size noX M130 M150∧St w noX M150 [.box b9 cs13 49,.box b7 cx3 118,.box b5 cs132 49] w'∧T' 3 = .pointer (some ⟨b5,0,none⟩)∧T' 5 = .pointer (some ⟨b7,0,none⟩)∧T' 6 = .pointer (some ⟨b9,0,none⟩)∧T' 10 = .int .i64 y134∧T' 11 = .int .i64 x148∧T' 96=v127∧T' 97 = .int .i64 (x3.at_.length:Int)∧T' 98 = .int .i64 y134∧T' 131 = .bool c152∧postTake_j6 x3 d133 y134 rec135 x148 c152=some r) ?_ ?_
 have hF181:=Qg w.heap.size noX M130
 refine Yt [.box b7 cx3 118,.box b5 cs132 49] [] Z6 hS fun w182 hS hG183 hR184=>wy 0 rfl (Qp Jl hT131_3) (fun _=>hR184) <|Y6 1 rfl (Ql (.bool d133.fixed) Jk rfl (Ym 1 rfl) (Kg (rr hb132))) hR184 <|wy 2 rfl (Qe (.bool d133.fixed) rfl) (fun _=>hR184) ?_
 rcases ic hz with ⟨hc185,hz⟩ | ⟨hc185,hz⟩<;>rw [hc185]
 refine Vq 3 rfl rfl rfl (Qe (.int .i64 x148) rfl) (fun _=>hR184) <|Vq 4 rfl rfl rfl (Qp Vy hT131_3) (fun _=>hR184) ?_
 obtain ⟨v186,ev186,hv186⟩:=(Yw (rr hb132))
 refine Kh 5 rfl rfl rfl (Ql v186 Vn rfl (Ym 1 rfl) ev186) hR184 ?_
 obtain ⟨a187,c187,hv187,_⟩:=Q3 hv186
 refine Vq 6 rfl rfl rfl (Zk Z7 (Vw hv187 rfl)) (fun _=>hR184) <|Vq 7 rfl rfl rfl (Zq rfl rfl) (fun _=>hR184) <|wy 8 rfl (Zp (.bool (decide (x148<(d133.ops.length:Int)))) rfl rfl) (fun _=>hR184) <|wy 9 rfl (Qe (.bool (decide (x148<(d133.ops.length:Int)))) rfl) (fun _=>hR184) ?_
 rcases ic hz with ⟨hc188,hz⟩ | ⟨hc188,hz⟩<;>rw [hc188]
 refine Vq 10 rfl rfl rfl (Qp Vy hT131_3) (fun _=>hR184) ?_
 obtain ⟨v189,ev189,hv189⟩:=(Yw (rr hb132))
 refine Kh 11 rfl rfl rfl (Ql v189 Vn rfl (Ym 1 rfl) ev189) hR184 <|Vq 12 rfl rfl rfl (Qe (.int .i64 x148) rfl) (fun _=>hR184) ?_
 obtain ⟨x191,hx190,hz⟩:=Qb hz
 obtain ⟨b190,o190,c190,p190,hv190,hi190,hj190,hM190,hr190⟩:=Yd hv189 hx190
 replace hr190:rep _ (sl p190 (o190+Int.toNat x148*3) 3) x191:=hr190
 refine Vq 13 rfl rfl rfl (Yq il27 rfl hv190 rfl hi190 hj190) (fun _=>hR184) <|Vq 14 rfl rfl rfl (Qp fa65_1 rfl) (fun _=>hR184) <|Kh 15 rfl rfl rfl (Ql (.int .i64 x191.key) Z5 rfl (bvRM hM190) (GOp.p1 hr190)) hR184 <|Vq 17 rfl rfl rfl (Qp Ka hT131_5) (fun _=>hR184) <|Kh 18 rfl rfl rfl (Ql (.int .i64 x3.node) Z5 rfl (Ym 0 rfl) (Vg (rr hcx3))) hR184 ?_
 obtain ⟨r194,hr193,hz⟩:=Qb hz
 replace hr193:=Option.some.inj hr193
 refine w1g 16 rfl rfl rfl (Z4 (vs:=[.int .i64 x191.key]) (v := .int .i64 r194) cb75 (Zu rfl) hS (hr193 ▸ (c_shard)) ?_)
 intro w192 hS
 refine Yr hS hG183 fun hR195 => ?_
 obtain ⟨r198,hr197,hz⟩:=Qb hz
 replace hr197:=Option.some.inj hr197
 refine w1g 19 rfl rfl rfl (Z4 (vs:=[.int .i64 x3.node]) (v := .int .i64 r198) cb72 (Zu rfl) hS (hr197 ▸ (c_of)) ?_)
 intro w196 hS
 refine Yr hS hG183 fun hR199=>Vq 20 rfl rfl rfl (Yc rfl rfl) (fun _=>hR199) <|wy 21 rfl (Zp (.bool (r194==r198)) rfl rfl) (fun _=>hR199) <|wy 22 rfl (Qe (.bool (r194==r198)) rfl) (fun _=>hR199) ?_
 rcases ic hz with ⟨hc200,hz⟩ | ⟨hc200,hz⟩<;>rw [hc200]
 refine Vq 23 rfl rfl rfl (Qe (.int .i64 x148) rfl) (fun _=>hR199) <|Vq 24 rfl rfl rfl (Qp fa49_6 hT131_3) (fun _=>hR199) ?_
 obtain ⟨u201,hx202,hz⟩:=Qb hz
 obtain ⟨hx202a,hx202b⟩:=Qt hx202
 refine Vq 25 rfl rfl rfl (Za ia46 rfl rfl hx202a hx202b) (fun _=>hR199) ?_
 obtain ⟨x203,hx204,hz⟩:=Qb hz
 refine Kh 26 rfl rfl rfl (Ql (.bool x203) Jk rfl (Ym 1 rfl) (vp (k:=1) rfl rfl (GCase.p6 (rr hb132)) hx204)) hR199 <|Vq 27 rfl rfl rfl (Ye rfl) (fun _=>hR199) <|wy 28 rfl (Zp (.bool (!x203)) rfl rfl) (fun _=>hR199) ?_
 refine wd (Qa ?_)
 exact ⟨M130,(!x203),hF181,hS,hT131_3,hT131_5,hT131_6,rfl,rfl,hT131_96,hT131_97,hT131_98,rfl,hz⟩
 refine Yg 23 (j:=22) rfl rfl rfl rfl (fun _=>hR199) <|Yg 24 (j:=22) rfl rfl rfl rfl (fun _=>hR199) <|Yg 25 (j:=22) rfl rfl rfl rfl (fun _=>hR199) <|Yg 26 (j:=22) rfl rfl rfl rfl (fun _=>hR199) <|Yg 27 (j:=22) rfl rfl rfl rfl (fun _=>hR199) <|wy 28 rfl (Ze (.bool false) rfl rfl) (fun _=>hR199) ?_
 refine wd (Qa ?_)
 exact ⟨M130,false,hF181,hS,hT131_3,hT131_5,hT131_6,rfl,rfl,hT131_96,hT131_97,hT131_98,rfl,hz⟩
 refine Yg 10 (j:=9) rfl rfl rfl rfl (fun _=>hR184) <|Yg 11 (j:=9) rfl rfl rfl rfl (fun _=>hR184) <|Yg 12 (j:=9) rfl rfl rfl rfl (fun _=>hR184) <|Yg 13 (j:=9) rfl rfl rfl rfl (fun _=>hR184) <|Yg 14 (j:=9) rfl rfl rfl rfl (fun _=>hR184) <|Yg 15 (j:=9) rfl rfl rfl rfl (fun _=>hR184) <|Yg 16 (j:=9) rfl rfl rfl rfl (fun _=>hR184) <|Yg 17 (j:=9) rfl rfl rfl rfl (fun _=>hR184) <|Yg 18 (j:=9) rfl rfl rfl rfl (fun _=>hR184) <|Yg 19 (j:=9) rfl rfl rfl rfl (fun _=>hR184) <|Yg 20 (j:=9) rfl rfl rfl rfl (fun _=>hR184) <|wy 21 rfl (Ze (.bool false) rfl rfl) (fun _=>hR184) <|wy 22 rfl (Qe (.bool false) rfl) (fun _=>hR184) <|Yg 23 (j:=22) rfl rfl rfl rfl (fun _=>hR184) <|Yg 24 (j:=22) rfl rfl rfl rfl (fun _=>hR184) <|Yg 25 (j:=22) rfl rfl rfl rfl (fun _=>hR184) <|Yg 26 (j:=22) rfl rfl rfl rfl (fun _=>hR184) <|Yg 27 (j:=22) rfl rfl rfl rfl (fun _=>hR184) <|wy 28 rfl (Ze (.bool false) rfl rfl) (fun _=>hR184) ?_
 refine wd (Qa ?_)
 exact ⟨M130,false,hF181,hS,hT131_3,hT131_5,hT131_6,rfl,rfl,hT131_96,hT131_97,hT131_98,rfl,hz⟩
 refine Yg 3 (j:=2) rfl rfl rfl rfl (fun _=>hR184) <|Yg 4 (j:=2) rfl rfl rfl rfl (fun _=>hR184) <|Yg 5 (j:=2) rfl rfl rfl rfl (fun _=>hR184) <|Yg 6 (j:=2) rfl rfl rfl rfl (fun _=>hR184) <|Yg 7 (j:=2) rfl rfl rfl rfl (fun _=>hR184) <|wy 8 rfl (Ze (.bool false) rfl rfl) (fun _=>hR184) <|wy 9 rfl (Qe (.bool false) rfl) (fun _=>hR184) <|Yg 10 (j:=9) rfl rfl rfl rfl (fun _=>hR184) <|Yg 11 (j:=9) rfl rfl rfl rfl (fun _=>hR184) <|Yg 12 (j:=9) rfl rfl rfl rfl (fun _=>hR184) <|Yg 13 (j:=9) rfl rfl rfl rfl (fun _=>hR184) <|Yg 14 (j:=9) rfl rfl rfl rfl (fun _=>hR184) <|Yg 15 (j:=9) rfl rfl rfl rfl (fun _=>hR184) <|Yg 16 (j:=9) rfl rfl rfl rfl (fun _=>hR184) <|Yg 17 (j:=9) rfl rfl rfl rfl (fun _=>hR184) <|Yg 18 (j:=9) rfl rfl rfl rfl (fun _=>hR184) <|Yg 19 (j:=9) rfl rfl rfl rfl (fun _=>hR184) <|Yg 20 (j:=9) rfl rfl rfl rfl (fun _=>hR184) <|wy 21 rfl (Ze (.bool false) rfl rfl) (fun _=>hR184) <|wy 22 rfl (Qe (.bool false) rfl) (fun _=>hR184) <|Yg 23 (j:=22) rfl rfl rfl rfl (fun _=>hR184) <|Yg 24 (j:=22) rfl rfl rfl rfl (fun _=>hR184) <|Yg 25 (j:=22) rfl rfl rfl rfl (fun _=>hR184) <|Yg 26 (j:=22) rfl rfl rfl rfl (fun _=>hR184) <|Yg 27 (j:=22) rfl rfl rfl rfl (fun _=>hR184) <|wy 28 rfl (Ze (.bool false) rfl rfl) (fun _=>hR184) ?_
 refine wd (Qa ?_)
 exact ⟨M130,false,hF181,hS,hT131_3,hT131_5,hT131_6,rfl,rfl,hT131_96,hT131_97,hT131_98,rfl,hz⟩
 rintro T151 w149 ⟨M150,c152,hx153,hS,hT151_3,hT151_5,hT151_6,hT151_10,hT151_11,hT151_96,hT151_97,hT151_98,hT151_131,hz⟩
 replace hcx3:=Rep.mono hx153.1 hcx3
 replace hb132:=Rep.mono hx153.1 hb132
 replace hF146:=Qc hF146 hx153
 rw [postTake_j6] at hz
 refine Qr hT151_131 (fun hc154 => ?_) (fun hc154 => ?_)
 replace hz:=Qn hz hc154
 refine Yt [.box b7 cx3 118] [] Z6 hS fun w155 hS hG156 hR157=>wy 0 rfl (Qe (.int .i64 x148) hT151_11) (fun _=>hR157) <|wy 1 rfl (Qe (.int .i64 x148) hT151_11) (fun _=>hR157) <|wy 2 rfl (Qp Kc hT151_5) (fun _=>hR157) ?_
 obtain ⟨v158,ev158,hv158⟩:=(Vi (rr hcx3))
 refine Y6 3 rfl (Ql v158 Z2 rfl (Ym 0 rfl) ev158) hR157 <|wy 4 rfl (Qe (.int .i64 y134) hT151_10) (fun _=>hR157) ?_
 obtain ⟨x160,hx159,hz⟩:=Qb hz
 obtain ⟨b159,o159,c159,p159,hv159,hi159,hj159,hM159,hr159⟩:=Yd hv158 hx159
 replace hr159:rep _ (sl p159 (o159+Int.toNat y134*1) 1) x160:=hr159
 refine wy 5 rfl (Yq V6 rfl hv159 rfl hi159 hj159) (fun _=>hR157) <|Y6 6 rfl (Ql (.int .i64 x160) Z5 rfl (bvRM hM159) hr159) hR157 <|wy 7 rfl (Qp fa49_6 hT151_3) (fun _=>hR157) ?_
 obtain ⟨u161,hx162,hz⟩:=Qb hz
 obtain ⟨hx162a,hx162b⟩:=Qt hx162
 refine wy 8 rfl (Za ia46 rfl rfl hx162a hx162b) (fun _=>hR157) <|wy 10 rfl (Qp fa49_7 hT151_3) (fun _=>hR157) ?_
 obtain ⟨x165,hx166,hz⟩:=Qb hz
 obtain ⟨a167,hx168,hz⟩:=Qb hz
 obtain ⟨d169,hd164,hz⟩:=Qb hz
 refine w1 9 rfl (Q8 2 1 hS rfl hb132 rfl rfl (rb true:rep M150 _ _) rfl rfl (GCase.u6 (rr hb132) (vu (k:=1) rfl rfl (GCase.p6 (rr hb132)) (Lf (vp (k:=1) rfl rfl (GCase.p6 (rr hb132)) hx166) (rb true:rep M150 _ _)) hx168)) hd164 ?_)
 intro cs164 w163 hb164 ha164 hs164 hS
 refine Yr hS hG156 fun hR170 => ?_
 obtain ⟨u171,hx172,hz⟩:=Qb hz
 obtain ⟨hx172a,hx172b⟩:=Qt hx172
 refine wy 11 rfl (Za ia47 rfl rfl hx172a hx172b) (fun _=>hR170) ?_
 obtain ⟨x175,hx176,hz⟩:=Qb hz
 obtain ⟨a177,hx178,hz⟩:=Qb hz
 obtain ⟨d179,hd174,hz⟩:=Qb hz
 refine w1 12 rfl (Q8 2 1 hS rfl hb164 rfl rfl (ri x160:rep M150 _ _) rfl rfl (GCase.u7 (rr hb164) (vu (k:=1) rfl rfl (GCase.p7 (rr hb164)) (Lf (vp (k:=1) rfl rfl (GCase.p7 (rr hb164)) hx176) (ri x160:rep M150 _ _)) hx178)) hd174 ?_)
 intro cs174 w173 hb174 ha174 hs174 hS
 refine Yr hS hG156 fun hR180 => ?_
 refine wd (Q7 ?_)
 refine (Qa ?_)
 exact ⟨M150,cs174,d179,hF146,hS,hb174,hT151_3,hT151_5,hT151_6,hT151_96,hT151_97,hT151_98,hz⟩
 replace hz:=Qo hz hc154
 refine Qv (Q7 ?_)
 refine (Qa ?_)
 exact ⟨M150,cs132,d133,hF146,hS,hb132,hT151_3,hT151_5,hT151_6,hT151_96,hT151_97,hT151_98,hz⟩
 rintro T142 w140 ⟨M141,cs143,d144,hx145,hS,hb143,hT142_3,hT142_5,hT142_6,hT142_96,hT142_97,hT142_98,hz⟩
 replace hF137:=Qc hF137 hx145
 rw [postTake_j5] at hz
 refine Qi <|Qd (Zz hT142_98 rfl) <|Qd (Qe (.int .i64 (IntKind.wrap .i64 (y134+1))) rfl) ?_
 refine Qf (Qa ?_)
 exact ⟨M141,cs143,d144,(IntKind.wrap .i64 (y134+1)),hF137,hS,hb143,hT142_3,hT142_5,hT142_6,hT142_96,hT142_97,rfl,(by rw [← hrec135];exact hz)⟩
 replace hz:=Qo hz hc139
 refine Zs <|Q0 <|Q0 <|Zt ?_
 refine (Qa ?_)
 refine Qh <|Qi ?_
 have ha205:=(rr hb132)
 refine Qd (Zg Vb hT131_3 (hS.bvB 2 rfl) (Rep.len ha205)) ?_
 obtain ⟨d208,hd207,hz⟩:=Qb hz
 refine Qu (Q8 0 24 hS rfl hb13 hT131_6 rfl ha205 rfl rfl (Lf (rr hb13) ha205) hd207 ?_)
 intro cs207 w206 hb207 ha207 hs207 hS
 refine Q2 2 rfl ?_
 refine Qf (Qa ?_)
 cases hz
 exact Q4 (Zi (Qs (V9 (j:=0) rfl hT131_6 rfl rfl (by rw [Rep.len hb207];exact Vb) hS rfl (Zj (Qm (Qm (Qm hS))) hE ⟨_,_,rfl,hb207,(Z3 _)⟩))))
 replace hz:=Qo hz hc126
 refine Qv (Q7 ?_)
 refine (Qa ?_)
 refine Qh <|Qi ?_
 have ha209:=(rr hcx1)
 refine Qd (Zg Vb hT12_3 (hS.bvB 2 rfl) (Rep.len ha209)) ?_
 obtain ⟨d212,hd211,hz⟩:=Qb hz
 refine Qu (Q8 0 24 hS rfl hb13 hT12_6 rfl ha209 rfl rfl (Lf (rr hb13) ha209) hd211 ?_)
 intro cs211 w210 hb211 ha211 hs211 hS
 refine Q2 2 rfl ?_
 refine Qf (Qa ?_)
 cases hz
 exact Q4 (V9 (j:=0) rfl hT12_6 rfl rfl (by rw [Rep.len hb211];exact Vb) hS rfl (Zj (Qm (Qm (Qm hS))) hE ⟨_,_,rfl,hb211,(Z3 _)⟩))
end Go.Proofs.Yteilffoclpgijaa
namespace Go.Proofs.Yteilffoclpgijaa
open Go.RowKit
open Rep (rep)
set_option linter.unusedVariables false
abbrev Kl := @Y_lenS
def bkWrite_j1 (x1:ByteArray) (x2:ByteArray):Option (ByteArray × Int) :=
 (cat x1 (strOfNums (([⟨IntKind.wrap .u8 (Int.fdiv (x2.size:Int) (2 ^ (min (Int.toNat 8) (IntKind.bits .i64))))⟩,⟨IntKind.wrap .u8 (x2.size:Int)⟩]:List Byt).map Byt.val))).bind fun s9 =>
 (cat s9 x2).bind fun s11 =>
 some (s11,0)
def bkWrite_j2 (x1:ByteArray) (x2:ByteArray) (c18:Bool):Option (ByteArray × Int) :=
 (bif c18 then
 some (x1,1)
 else
 (bif decide ((IntKind.wrap .i64 ((IntKind.wrap .i64 ((x1.size:Int)+2))+(x2.size:Int)))>65536) then
 some (x1,5)
 else
 bkWrite_j1 x1 x2))
def bkWriteD (fu:Nat) (x1:ByteArray) (x2:ByteArray):Option (ByteArray × Int) :=
 (bif decide ((x1.size:Int)>65536) then
 some (x1,2)
 else
 (bif decide ((x2.size:Int)<1) then
 bkWrite_j2 x1 x2 true
 else
 bkWrite_j2 x1 x2 (decide ((x2.size:Int)>400))))
set_option maxRecDepth 100000 in
set_option maxHeartbeats 4000000 in
theorem bkWrite_ok {M:Mm} {w:World} {x1:ByteArray} {x2:ByteArray} {fu:Nat} {r:ByteArray × Int} (hA:Agree M w)  (hz:bkWriteD fu x1 x2=some r) :
    Calls Try.prog 83 #[.string x1,.string x2] w (GivesV w (.tuple #[.string r.1,.int .i64 r.2])):=by
 refine Zh Try.func83 rfl 43 rfl rfl (by kernel_rfl) fun T hT => ?_
 have hT_0:T 0 = .string x1:=hT 0
 have hT_1:T 1 = .string x2:=hT 1
 clear hT
 have hE:=Qg w.heap.size noX M
 have hS:St w noX M [] w:=Zv hA
 rw [bkWriteD] at hz
 refine Qh <|Qi <|Q2 2 rfl ?_
 refine Qf (Qa ?_)
 refine Qz (fun T' w' => ∃ M4,Mm.ext w.heap.size noX M M4∧St w noX M4 [] w'∧T' 0 = .string x1∧T' 1 = .string x2∧bkWrite_j1 x1 x2=some r) ?_ ?_
 have hF13:=Qg w.heap.size noX M
 refine Qy <|Qh <|Qi <|Qd (Qe (.string x1) hT_0) <|Qd (Kl Zd rfl) <|Qd (Yu rfl rfl) <|Qd (Qj (.bool (decide ((x1.size:Int)>65536))) rfl) ?_
 refine Qf (Qa ?_)
 refine Qr rfl (fun hc14 => ?_) (fun hc14 => ?_)
 replace hz:=Qn hz hc14
 refine Qh <|Qi <|Qd (Qe (.string x1) hT_0) <|Q2 2 rfl ?_
 refine Qf (Qa ?_)
 cases hz
 exact Q4 (Zi (Qs (R_t2 rfl rfl rfl ⟨rfl,hS.kept⟩)))
 replace hz:=Qo hz hc14
 refine Qz (fun T' w' => ∃ M16 c18,Mm.ext w.heap.size noX M M16∧St w noX M16 [] w'∧T' 0 = .string x1∧T' 1 = .string x2∧T' 11 = .bool c18∧bkWrite_j2 x1 x2 c18=some r) ?_ ?_
 have hF22:=Qg w.heap.size noX M
 refine Qi <|Qd (Qe (.string x2) hT_1) <|Qd (Kl Zd rfl) <|Qd (Zq rfl rfl) <|Qd (Qe (.bool (decide ((x2.size:Int)<1))) rfl) ?_
 rcases ic hz with ⟨hc23,hz⟩ | ⟨hc23,hz⟩<;>rw [hc23]
 refine Q2 5 rfl ?_
 refine Qf (Qa ?_)
 exact ⟨M,true,hF22,hS,hT_0,hT_1,rfl,hz⟩
 refine Qk rfl rfl (Qe (.string x2) hT_1) <|Qk rfl rfl (Kl Zd rfl) <|Qk rfl rfl (Yu rfl rfl) <|Q2 2 rfl ?_
 refine Qf (Qa ?_)
 exact ⟨M,(decide ((x2.size:Int)>400)),hF22,hS,hT_0,hT_1,rfl,hz⟩
 rintro T17 w15 ⟨M16,c18,hx19,hS,hT17_0,hT17_1,hT17_11,hz⟩
 replace hF13:=Qc hF13 hx19
 rw [bkWrite_j2] at hz
 refine Qr hT17_11 (fun hc20 => ?_) (fun hc20 => ?_)
 replace hz:=Qn hz hc20
 refine Qh <|Qi <|Qd (Qe (.string x1) hT17_0) <|Q2 2 rfl ?_
 refine Qf (Qa ?_)
 cases hz
 exact Q4 (Zi (Qs (R_t2 rfl rfl rfl ⟨rfl,hS.kept⟩)))
 replace hz:=Qo hz hc20
 refine Qh <|Qi <|Qd (Qe (.string x1) hT17_0) <|Qd (Kl Zd rfl) <|Qd (Zz rfl rfl) <|Qd (Qe (.string x2) hT17_1) <|Qd (Kl Zd rfl) <|Qd (Zz rfl rfl) <|Qd (Yu rfl rfl) <|Qd (Qj (.bool (decide ((IntKind.wrap .i64 ((IntKind.wrap .i64 ((x1.size:Int)+2))+(x2.size:Int)))>65536))) rfl) ?_
 refine Qf (Qa ?_)
 refine Qr rfl (fun hc21 => ?_) (fun hc21 => ?_)
 replace hz:=Qn hz hc21
 refine Qh <|Qi <|Qd (Qe (.string x1) hT17_0) <|Q2 2 rfl ?_
 refine Qf (Qa ?_)
 cases hz
 exact Q4 (Zi (Qs (R_t2 rfl rfl rfl ⟨rfl,hS.kept⟩)))
 replace hz:=Qo hz hc21
 refine Qv (Q7 ?_)
 refine (Qa ?_)
 exact ⟨M16,hF13,hS,hT17_0,hT17_1,hz⟩
 rintro T5 w3 ⟨M4,hx6,hS,hT5_0,hT5_1,hz⟩
 rw [bkWrite_j1] at hz
 refine Qh <|Qi <|Qd (Qe (.string x1) hT5_0) <|Qd (Qe (.string x2) hT5_1) <|Qd (Kl Zd rfl) <|Qd (Y_shr rfl rfl (by decide)) <|Qd (Vo ⟨_,Zo⟩ Zl rfl) <|Qd (Qe (.string x2) hT5_1) <|Qd (Kl Zd rfl) <|Qd (Vo ⟨_,Zo⟩ Zl rfl) ?_
 refine Qu (Z0 (α := Byt) (l:=([⟨IntKind.wrap .u8 (Int.fdiv (x2.size:Int) (2 ^ (min (Int.toNat 8) (IntKind.bits .i64))))⟩,⟨IntKind.wrap .u8 (x2.size:Int)⟩]:List Byt)) [.int .u8 (IntKind.wrap .u8 (Int.fdiv (x2.size:Int) (2 ^ (min (Int.toNat 8) (IntKind.bits .i64))))),.int .u8 (IntKind.wrap .u8 (x2.size:Int))] tl144 (Ys rfl (Ys rfl Vf)) rfl rfl (by decide) (by decide) (by decide) hS (K5 (ru (IntKind.wrap .u8 (Int.fdiv (x2.size:Int) (2 ^ (min (Int.toNat 8) (IntKind.bits .i64))))):rep M4 _ _) (K5 (ru (IntKind.wrap .u8 (x2.size:Int)):rep M4 _ _) Ji)) ?_)
 intro v8 M8 w7 hx8 hv8 hS
 refine Qd (Y_b2s hS.agree Try.underlying144 Zl Zd rfl hv8) ?_
 obtain ⟨s9,hx10,hz⟩:=Qb hz
 obtain ⟨hx10a,hx10⟩:=cat_some hx10
 refine Qd ((hx10 ▸ Y_cat rfl rfl hx10a)) <|Qd (Qe (.string x2) hT5_1) ?_
 obtain ⟨s11,hx12,hz⟩:=Qb hz
 obtain ⟨hx12a,hx12⟩:=cat_some hx12
 refine Qd ((hx12 ▸ Y_cat rfl rfl hx12a)) <|Q2 2 rfl ?_
 refine Qf (Qa ?_)
 cases hz
 exact Q4 (R_t2 rfl rfl rfl ⟨rfl,hS.kept⟩)
def bkRead_j1 (l6:List ByteArray) (y8:Int):Option ((List ByteArray) × Int) :=
 some (l6,y8)
def bkRead_j2 (x1:ByteArray) (l14:List ByteArray) (y16:Int) (rec17:(List ByteArray)→Int→Option ((List ByteArray) × Int)) (c22:Int) (c24:Int):Option ((List ByteArray) × Int) :=
 (cutB x1 (some (IntKind.wrap .i64 (y16+2))) (some (IntKind.wrap .i64 ((IntKind.wrap .i64 (y16+2))+(orI .i64 (IntKind.wrap .i64 ((IntKind.wrap .i64 c22)*2 ^ (min (Int.toNat 8) (IntKind.bits .i64)))) (IntKind.wrap .i64 c24)))))).bind fun s32 =>
 (chkS s32).bind fun _ =>
 (app l14 ([s32]:List ByteArray)).bind fun l38 =>
 rec17 l38 (IntKind.wrap .i64 (y16+(IntKind.wrap .i64 (2+(orI .i64 (IntKind.wrap .i64 ((IntKind.wrap .i64 c22)*2 ^ (min (Int.toNat 8) (IntKind.bits .i64)))) (IntKind.wrap .i64 c24))))))
def bkRead_j3 (x1:ByteArray) (l14:List ByteArray) (y16:Int) (rec17:(List ByteArray)→Int→Option ((List ByteArray) × Int)) (c22:Int) (c24:Int) (c43:Bool):Option ((List ByteArray) × Int) :=
 (bif c43 then
 bkRead_j1 l14 y16
 else
 bkRead_j2 x1 l14 y16 rec17 c22 c24)
def bkRead_l1 (x1:ByteArray):Nat→(List ByteArray)→Int→Option ((List ByteArray) × Int)
 | 0,_,_=>none
 | n+1,l14,y16 =>
 (bif decide ((IntKind.wrap .i64 (y16+2))≤(x1.size:Int)) then
 (idxS x1 y16).bind fun c22 =>
 (idxS x1 (IntKind.wrap .i64 (y16+1))).bind fun c24 =>
 (bif decide ((orI .i64 (IntKind.wrap .i64 ((IntKind.wrap .i64 c22)*2 ^ (min (Int.toNat 8) (IntKind.bits .i64)))) (IntKind.wrap .i64 c24))<1) then
 bkRead_j3 x1 l14 y16 (bkRead_l1 x1 n) c22 c24 true
 else
 (bif decide ((orI .i64 (IntKind.wrap .i64 ((IntKind.wrap .i64 c22)*2 ^ (min (Int.toNat 8) (IntKind.bits .i64)))) (IntKind.wrap .i64 c24))>400) then
 bkRead_j3 x1 l14 y16 (bkRead_l1 x1 n) c22 c24 true
 else
 bkRead_j3 x1 l14 y16 (bkRead_l1 x1 n) c22 c24 (decide ((orI .i64 (IntKind.wrap .i64 ((IntKind.wrap .i64 c22)*2 ^ (min (Int.toNat 8) (IntKind.bits .i64)))) (IntKind.wrap .i64 c24))>(IntKind.wrap .i64 ((IntKind.wrap .i64 ((x1.size:Int)-y16))-2))))))
 else
 bkRead_j1 l14 y16)
def bkReadD (fu:Nat) (x1:ByteArray):Option ((List ByteArray) × Int) :=
 bkRead_l1 x1 fu ([]:List ByteArray) 0
set_option maxRecDepth 100000 in
set_option maxHeartbeats 4000000 in
theorem bkRead_ok {M:Mm} {w:World} {x1:ByteArray} {fu:Nat} {r:(List ByteArray) × Int} (hA:Agree M w)  (hz:bkReadD fu x1=some r) :
    Calls Try.prog 73 #[.string x1] w (Gives M w (fun M' u => ∃ v0,u = .tuple #[v0,.int .i64 r.2]∧repL M' v0 r.1)):=by
 refine Zh Try.func73 rfl 55 rfl rfl (by kernel_rfl) fun T hT => ?_
 have hT_0:T 0 = .string x1:=hT 0
 clear hT
 have hE:=Qg w.heap.size noX M
 have hS:St w noX M [] w:=Zv hA
 rw [bkReadD] at hz
 refine Qh <|Qi <|Q2 2 rfl ?_
 refine Qf (Qa ?_)
 refine Qh <|Qi <|Qd (Qj ((.slice none 0 0)) rfl) ?_
 refine Qf (Qa ?_)
 refine Qh <|Qi <|Qd (Qj (.int .i64 0) rfl) ?_
 refine Qf (Qa ?_)
 replace hS:=hS.nilRow 9 1
 refine Qz (fun T' w' => ∃ M4 v7 l6 y8,Mm.ext w.heap.size noX M M4∧St w noX M4 [.row v7 9 1] w'∧repL M4 v7 l6∧T' 4=v7∧T' 5 = .int .i64 y8∧bkRead_j1 l6 y8=some r) ?_ ?_
 have hF10:=Qg w.heap.size noX M
 refine Qy ?_
 refine Zy (fun k18 T' w' => ∃ M12 v15 l14 y16,Mm.ext w.heap.size noX M M12∧St w noX M12 [.row v15 9 1] w'∧repL M12 v15 l14∧T' 0 = .string x1∧T' 4=v15∧T' 5 = .int .i64 y16∧bkRead_l1 x1 k18 l14 y16=some r) fu ?_ ?_ ?_
 exact ⟨M,(.slice none 0 0),([]:List ByteArray),(0:Int),(Qg _ _ _),hS,(Z3 _),hT_0,rfl,rfl,hz⟩
 rintro T' w' ⟨_,_,_,_,_,_,_,_,_,_,hz⟩
 rw [bkRead_l1] at hz
 cases hz
 intro k18
 rintro T13 w11 ⟨M12,v15,l14,y16,hx20,hS,hv15,hT13_0,hT13_4,hT13_5,hz⟩
 replace hF10:=Qc hF10 hx20
 have hF19:=hx20
 rw [bkRead_l1] at hz
 obtain ⟨rec17,hrec17⟩ : ∃ f,f=bkRead_l1 x1 k18:=⟨_,rfl⟩
 rw [← hrec17] at hz
 refine Qh <|Qh <|Qi <|Qd (Qe (.int .i64 y16) hT13_5) <|Qd (Zz rfl rfl) <|Qd (Qe (.string x1) hT13_0) <|Qd (Kl Zd rfl) <|Qd (Y_leq rfl rfl) ?_
 refine Qf (Qa ?_)
 refine Qr rfl (fun hc21 => ?_) (fun hc21 => ?_)
 replace hz:=Qn hz hc21
 refine Qv (Qa ?_)
 refine Qy <|Qh <|W_drawq Z6 (by kernel_rfl) hS <|Yn (Qe (.string x1) hT13_0) <|Yn (Qe (.int .i64 y16) hT13_5) ?_
 obtain ⟨c22,hx23,hz⟩:=Qb hz
 refine Yn (Y_ixS Zd rfl rfl hx23) <|Yn (Vo ⟨_,Zl⟩ Zo rfl) <|Yn (Y_shl rfl rfl (by decide)) <|Yn (Qe (.string x1) hT13_0) <|Yn (Qe (.int .i64 y16) hT13_5) <|Yn (Zz rfl rfl) ?_
 obtain ⟨c24,hx25,hz⟩:=Qb hz
 refine Yn (Y_ixS Zd rfl rfl hx25) <|Yn (Vo ⟨_,Zl⟩ Zo rfl) <|Yn (Y_or rfl rfl) <|Yn (Qj (.int .i64 (orI .i64 (IntKind.wrap .i64 ((IntKind.wrap .i64 c22)*2 ^ (min (Int.toNat 8) (IntKind.bits .i64)))) (IntKind.wrap .i64 c24))) rfl) <|WQ_nil ?_
 intro w26 hS
 refine (Qa ?_)
 refine Qz (fun T' w' => ∃ M28,Mm.ext w.heap.size noX M12 M28∧St w noX M28 [.row v15 9 1] w'∧T' 0 = .string x1∧T' 4=v15∧T' 5 = .int .i64 y16∧T' 6 = .int .i64 (orI .i64 (IntKind.wrap .i64 ((IntKind.wrap .i64 c22)*2 ^ (min (Int.toNat 8) (IntKind.bits .i64)))) (IntKind.wrap .i64 c24))∧bkRead_j2 x1 l14 y16 rec17 c22 c24=some r) ?_ ?_
 have hF39:=Qg w.heap.size noX M12
 refine Qz (fun T' w' => ∃ M41 c43,Mm.ext w.heap.size noX M12 M41∧St w noX M41 [.row v15 9 1] w'∧T' 0 = .string x1∧T' 4=v15∧T' 5 = .int .i64 y16∧T' 6 = .int .i64 (orI .i64 (IntKind.wrap .i64 ((IntKind.wrap .i64 c22)*2 ^ (min (Int.toNat 8) (IntKind.bits .i64)))) (IntKind.wrap .i64 c24))∧T' 37 = .bool c43∧bkRead_j3 x1 l14 y16 rec17 c22 c24 c43=some r) ?_ ?_
 have hF46:=Qg w.heap.size noX M12
 refine Qi <|Qd (Qe (.int .i64 (orI .i64 (IntKind.wrap .i64 ((IntKind.wrap .i64 c22)*2 ^ (min (Int.toNat 8) (IntKind.bits .i64)))) (IntKind.wrap .i64 c24))) rfl) <|Qd (Zq rfl rfl) <|Qd (Qe (.bool (decide ((orI .i64 (IntKind.wrap .i64 ((IntKind.wrap .i64 c22)*2 ^ (min (Int.toNat 8) (IntKind.bits .i64)))) (IntKind.wrap .i64 c24))<1))) rfl) ?_
 rcases ic hz with ⟨hc47,hz⟩ | ⟨hc47,hz⟩<;>rw [hc47]
 refine Q2 12 rfl ?_
 refine Qf (Qa ?_)
 exact ⟨M12,true,hF46,hS,hT13_0,hT13_4,hT13_5,rfl,rfl,hz⟩
 refine Qk rfl rfl (Qe (.int .i64 (orI .i64 (IntKind.wrap .i64 ((IntKind.wrap .i64 c22)*2 ^ (min (Int.toNat 8) (IntKind.bits .i64)))) (IntKind.wrap .i64 c24))) rfl) <|Qk rfl rfl (Yu rfl rfl) <|Q2 2 rfl ?_
 rcases ic hz with ⟨hc48,hz⟩ | ⟨hc48,hz⟩<;>rw [hc48]
 refine Q2 8 rfl ?_
 refine Qf (Qa ?_)
 exact ⟨M12,true,hF46,hS,hT13_0,hT13_4,hT13_5,rfl,rfl,hz⟩
 refine Qk rfl rfl (Qe (.int .i64 (orI .i64 (IntKind.wrap .i64 ((IntKind.wrap .i64 c22)*2 ^ (min (Int.toNat 8) (IntKind.bits .i64)))) (IntKind.wrap .i64 c24))) rfl) <|Qk rfl rfl (Qe (.string x1) hT13_0) <|Qk rfl rfl (Kl Zd rfl) <|Qk rfl rfl (Qe (.int .i64 y16) hT13_5) <|Qk rfl rfl (Kf rfl rfl) <|Qk rfl rfl (Kf rfl rfl) <|Qk rfl rfl (Yu rfl rfl) <|Qd (Ze (.bool (decide ((orI .i64 (IntKind.wrap .i64 ((IntKind.wrap .i64 c22)*2 ^ (min (Int.toNat 8) (IntKind.bits .i64)))) (IntKind.wrap .i64 c24))>(IntKind.wrap .i64 ((IntKind.wrap .i64 ((x1.size:Int)-y16))-2))))) rfl rfl) ?_
 refine Qf (Qa ?_)
 exact ⟨M12,(decide ((orI .i64 (IntKind.wrap .i64 ((IntKind.wrap .i64 c22)*2 ^ (min (Int.toNat 8) (IntKind.bits .i64)))) (IntKind.wrap .i64 c24))>(IntKind.wrap .i64 ((IntKind.wrap .i64 ((x1.size:Int)-y16))-2)))),hF46,hS,hT13_0,hT13_4,hT13_5,rfl,rfl,hz⟩
 rintro T42 w40 ⟨M41,c43,hx44,hS,hT42_0,hT42_4,hT42_5,hT42_6,hT42_37,hz⟩
 replace hv15:=Qw hx44.1 hv15
 replace hF10:=Qc hF10 hx44
 replace hF39:=Qc hF39 hx44
 rw [bkRead_j3] at hz
 refine Qr hT42_37 (fun hc45 => ?_) (fun hc45 => ?_)
 replace hz:=Qn hz hc45
 refine Zs <|Q0 <|ex_blk rfl <|Q0 <|Zt ?_
 refine (Qa ?_)
 exact ⟨M41,v15,l14,y16,hF10,hS,hv15,hT42_4,hT42_5,hz⟩
 replace hz:=Qo hz hc45
 refine Qv (Qa ?_)
 exact ⟨M41,hF39,hS,hT42_0,hT42_4,hT42_5,hT42_6,hz⟩
 rintro T29 w27 ⟨M28,hx30,hS,hT29_0,hT29_4,hT29_5,hT29_6,hz⟩
 rw [bkRead_j2] at hz
 refine Qh <|Qi <|Qd (Qe (v15) hT29_4) <|Qd (Qe (.string x1) hT29_0) <|Qd (Qe (.int .i64 y16) hT29_5) <|Qd (Zz rfl rfl) <|Qd (Qe (.int .i64 y16) hT29_5) <|Qd (Zz rfl rfl) <|Qd (Qe (.int .i64 (orI .i64 (IntKind.wrap .i64 ((IntKind.wrap .i64 c22)*2 ^ (min (Int.toNat 8) (IntKind.bits .i64)))) (IntKind.wrap .i64 c24))) hT29_6) <|Qd (Zz rfl rfl) ?_
 obtain ⟨s32,hx31,hz⟩:=Qb hz
 obtain ⟨⟨pp31,qq31⟩,hc31,hx31⟩:=Option.map_eq_some_iff.1 hx31
 refine Qd ((hx31 ▸ Y_cutS (l:=(some (IntKind.wrap .i64 (y16+2)))) (h:=(some (IntKind.wrap .i64 ((IntKind.wrap .i64 (y16+2))+(orI .i64 (IntKind.wrap .i64 ((IntKind.wrap .i64 c22)*2 ^ (min (Int.toNat 8) (IntKind.bits .i64)))) (IntKind.wrap .i64 c24)))))) Zd rfl (evs rfl) (evs rfl) hc31)) ?_
 obtain ⟨_,hx34,hz⟩:=Qb hz
 have hx34:=Ke hx34
 refine Qu (Z0 (α := ByteArray) (l:=([s32]:List ByteArray)) [.string s32] tl72 (Ys rfl Vf) rfl rfl (by decide) (by decide) (by decide) hS (K5 (V0 hx34:rep M28 [Value.string s32] s32) Ji) ?_)
 intro v35 M35 w33 hx35 hv35 hS
 replace hv15:=Qw (hx30.1.trans hx35.1) hv15
 obtain ⟨l38,hr37,hz⟩:=Qb hz
 obtain ⟨hy37,hs37⟩:=Z1 hr37
 refine Qu (Y3 (α := ByteArray) (j:=0) tp72 hS rfl rfl rfl hv15 hv35 hy37 ?_)
 intro v37 M37 w36 hx37 hv37 hS
 rw [← hs37] at hv37
 clear hr37 hs37
 replace hF19:=Qc hF19 (hx30.trans (hx35.trans hx37))
 refine Qd (Qj (v37) rfl) ?_
 refine Qf (Qa ?_)
 refine Qi <|Qd (Qe (.int .i64 y16) hT29_5) <|Qd (Qe (.int .i64 (orI .i64 (IntKind.wrap .i64 ((IntKind.wrap .i64 c22)*2 ^ (min (Int.toNat 8) (IntKind.bits .i64)))) (IntKind.wrap .i64 c24))) hT29_6) <|Qd (Zz rfl rfl) <|Qd (Zz rfl rfl) <|Qd (Qj (.int .i64 (IntKind.wrap .i64 (y16+(IntKind.wrap .i64 (2+(orI .i64 (IntKind.wrap .i64 ((IntKind.wrap .i64 c22)*2 ^ (min (Int.toNat 8) (IntKind.bits .i64)))) (IntKind.wrap .i64 c24))))))) rfl) ?_
 refine Qf (Q7 ?_)
 refine (Qa ?_)
 exact ⟨M37,v37,l38,(IntKind.wrap .i64 (y16+(IntKind.wrap .i64 (2+(orI .i64 (IntKind.wrap .i64 ((IntKind.wrap .i64 c22)*2 ^ (min (Int.toNat 8) (IntKind.bits .i64)))) (IntKind.wrap .i64 c24)))))),hF19,hS,hv37,hT29_0,rfl,rfl,(by rw [← hrec17];exact hz)⟩
 replace hz:=Qo hz hc21
 refine Zs <|Q0 <|Q0 <|Zt ?_
 refine (Qa ?_)
 exact ⟨M12,v15,l14,y16,hF10,hS,hv15,hT13_4,hT13_5,hz⟩
 rintro T5 w3 ⟨M4,v7,l6,y8,hx9,hS,hv7,hT5_4,hT5_5,hz⟩
 replace hE:=Qc hE hx9
 rw [bkRead_j1] at hz
 refine Qh <|Qi <|Qd (Qe (v7) hT5_4) <|Qd (Qe (.int .i64 y8) hT5_5) <|Q2 2 rfl ?_
 refine Qf (Qa ?_)
 cases hz
 exact Q4 (R_t2 rfl rfl rfl (Zj (Qm hS) hE ⟨_,rfl,hv7⟩))
def bkTearD (fu:Nat) (x1:ByteArray) (x2:ByteArray) (x3:Int):Option ByteArray :=
 (bkWriteD fu x1 x2).bind fun r6 =>
 (bif r6.2 != 0 then
 some x1
 else
 (cutB r6.1 none (some (IntKind.wrap .i64 ((x1.size:Int)+(max 0 (min x3 (IntKind.wrap .i64 ((r6.1.size:Int)-(x1.size:Int))))))))).bind fun s9 =>
 some s9)
set_option maxRecDepth 100000 in
set_option maxHeartbeats 4000000 in
theorem bkTear_ok {M:Mm} {w:World} {x1:ByteArray} {x2:ByteArray} {x3:Int} {fu:Nat} {r:ByteArray} (hA:Agree M w)  (hz:bkTearD fu x1 x2 x3=some r) :
    Calls Try.prog 82 #[.string x1,.string x2,.int .i64 x3] w (GivesV w (.string r)):=by
 refine Zh Try.func82 rfl 31 rfl rfl (by kernel_rfl) fun T hT => ?_
 have hT_0:T 0 = .string x1:=hT 0
 have hT_1:T 1 = .string x2:=hT 1
 have hT_2:T 2 = .int .i64 x3:=hT 2
 clear hT
 have hE:=Qg w.heap.size noX M
 have hS:St w noX M [] w:=Zv hA
 rw [bkTearD] at hz
 refine Qh <|Qi <|Qd (Qj (.string (⟨#[]⟩:ByteArray)) rfl) ?_
 refine Qf (Qa ?_)
 refine Qh <|Qi <|Qd (Qe (.string x1) hT_0) <|Qd (Qe (.string x2) hT_1) ?_
 obtain ⟨r6,hr5,hz⟩:=Qb hz
 refine Qu (Z4 (vs:=[.string x1,.string x2]) (v := .tuple #[.string r6.1,.int .i64 r6.2]) cb83 (Ya rfl rfl) hS (bkWrite_ok hS.agree hr5) ?_)
 intro w4 hS
 refine Qd (Qe (.tuple #[.string r6.1,.int .i64 r6.2]) rfl) <|Qd (Zc (v := .string r6.1) rfl rfl) <|Qd (Zc (v := .int .i64 r6.2) rfl rfl) <|Q2 2 rfl ?_
 refine Qf (Qa ?_)
 refine Qh <|Qh <|Qi <|Qd (Qe (.int .i64 r6.2) rfl) <|Qd (Yp rfl rfl) ?_
 refine Qf (Qa ?_)
 refine Qr rfl (fun hc7 => ?_) (fun hc7 => ?_)
 replace hz:=Qn hz hc7
 refine Qh <|Qi <|Qd (Qe (.string x1) hT_0) <|Qd (Qj (.string x1) rfl) ?_
 refine Qf (Qa ?_)
 cases hz
 exact Q4 (Qs (Yj rfl rfl ⟨rfl,hS.kept⟩))
 replace hz:=Qo hz hc7
 refine Qv (Qa ?_)
 refine Qh <|Qi <|Qd (Qe (.string r6.1) rfl) <|Qd (Qe (.string x1) hT_0) <|Qd (Kl Zd rfl) <|Qd (Qe (.int .i64 x3) hT_2) <|Qd (Qe (.string r6.1) rfl) <|Qd (Kl Zd rfl) <|Qd (Qe (.string x1) hT_0) <|Qd (Kl Zd rfl) <|Qd (Kf rfl rfl) <|Qd (Y_min rfl rfl) <|Qd (Y_max rfl rfl) <|Qd (Zz rfl rfl) ?_
 obtain ⟨s9,hx8,hz⟩:=Qb hz
 obtain ⟨⟨pp8,qq8⟩,hc8,hx8⟩:=Option.map_eq_some_iff.1 hx8
 refine Qd ((hx8 ▸ Y_cutS (l:=none) (h:=(some (IntKind.wrap .i64 ((x1.size:Int)+(max 0 (min x3 (IntKind.wrap .i64 ((r6.1.size:Int)-(x1.size:Int))))))))) Zd rfl evn (evs rfl) hc8)) <|Qd (Qj (.string s9) rfl) ?_
 refine Qf (Qa ?_)
 cases hz
 exact Q4 (Yj rfl rfl ⟨rfl,hS.kept⟩)
end Go.Proofs.Yteilffoclpgijaa
namespace Go.Proofs.Yteilffoclpgijaa
open Go.RowKit
open Rep (rep)
section
variable {P:Program} {n:Nat} {Q:Exit→Tm→World→Prop} {T:Tm} {w w0:World} {X:Nat→Prop} {M:Mm} {H:List Ent} {K:Tm→World→Prop} {dst:Option Tmp} {ty:TypeId} {pos:String} {af:Array Edge} {g:Option (Nat × Bool)}
theorem stk_read {v:Value} {e:TypeId} {xs:List Value} {l:List ByteArray} (hA:Agree M w) (hs:stkIn M w v e 1 xs) (hk:skr M v xs l) : ∃ M1,Agree M1 w∧repL M1 v l:=by
  obtain ⟨⟨n,hxl,⟨rfl,rfl⟩ | ⟨b,cap,cur,rfl,_,hh,hnc,hcm,hcs,htake⟩⟩,hM⟩:=hs
  · obtain ⟨⟨a,cap,hv,hc⟩,_⟩:=hk
    simp only [Value.slice.injEq] at hv
    have:l=[]:=List.length_eq_zero_iff.1 hv.2.1.symm
    subst this
    exact ⟨M,hA,repL_nil M⟩
  · obtain ⟨⟨a,cap',hv,hc⟩,hb,hl,hr⟩:=hk
    simp only [Value.slice.injEq] at hv
    obtain ⟨rfl,rfl,rfl⟩:=hv
    refine ⟨M.put b xs,fun c p hc => ?_,some ⟨b,0,none⟩,cap,rfl,hnc,(fun h=>by cases h),hb,fun i x hx => ?_⟩
    · by_cases hcb:c=b
      · subst hcb
        rw [Mm.put_same] at hc
        cases hc
        exact ⟨cur,e,(0,0),hh,by rw [← htake];exact List.take_prefix _ _⟩
      · rw [Mm.put_other _ _ hcb] at hc
        exact hA c p hc
    · have hi:=(List.getElem?_eq_some_iff.1 hx).1
      have hl:xs.length=l.length*1:=hl
      refine ⟨b,0,xs,rfl,Mm.put_same _ _ _,?_,?_⟩
      · show 0+i*1+1≤xs.length
        omega
      · rw [Nat.zero_add]
        exact hr i x hx
theorem repL_other {M1 M2:Mm} {v:Value} {l:List ByteArray} (h:repL M1 v l) (hM : ∀ b,v.ownBlock=some b→M2 b=M1 b):repL M2 v l:=by
  obtain ⟨a,cap,rfl,h1,h2,h3,h4⟩:=h
  refine ⟨a,cap,rfl,h1,h2,h3,fun i x hx => ?_⟩
  obtain ⟨b,off,p,rfl,hb,hle,hr⟩:=h4 i x hx
  exact ⟨b,off,p,rfl,(hM b rfl).trans hb,hle,hr⟩
theorem bvKS {j:Nat} {v:Value} {e:TypeId} {k:Nat} {xs:List Value} {b:Nat} (hj:H[j]? = some (.stk v e k xs)) (hb:v.ownBlock=some b):BV (St w0 X M H) b xs:=fun w h=>h.bvK hj hb w rfl
theorem St.fresh {M1:Mm} {u:Value} {e:TypeId} {k:Nat} {w':World} (hSt:St w0 X M H w) (hs:St w (lentX []) M1 [.row u e k] w') :
    ∃ M2:Mm,(∀ b,u.ownBlock=some b→M2 b=M1 b)∧Mm.ext w0.heap.size X M M2∧St w0 X M2 (.row u e k::H) w':=by
  have hno : ∀ b,¬ lentX [] b:=fun b ⟨e,he,_⟩=>by cases he
  have hkept:Kept w w':=⟨hs.os,hs.tape,hs.output,hs.size,fun k hk=>hs.frame k hk (hno k)⟩
  have hnew : ∀ b,u.ownBlock=some b→w.heap.size≤b:=fun b hb=>by
    rcases hs.mine _ List.mem_cons_self b hb with h | h
    · exact absurd h (hno b)
    · exact h
  have hlt : ∀ b p,M b=some p→b<w.heap.size:=fun b p hb=>hSt.agree.lt hb
  have e1 : ∀ b,b<w.heap.size→(fun b=>if b<w.heap.size then M b else M1 b) b=M b:=fun b hb=>if_pos hb
  have e2 : ∀ b,¬ b<w.heap.size→(fun b=>if b<w.heap.size then M b else M1 b) b=M1 b:=fun b hb=>if_neg hb
  refine ⟨fun b=>if b<w.heap.size then M b else M1 b,fun b hb=>e2 b (by have:=hnew b hb;omega),⟨fun b p hb=>⟨p,(e1 b (hlt b p hb)).trans hb,List.prefix_refl _⟩,fun b hb _=>e1 b (by have:=hSt.size;omega)⟩,?_⟩
  have hA:Agree (fun b=>if b<w.heap.size then M b else M1 b) w':=fun b p hb=>by
    by_cases h:b<w.heap.size
    · have hb:M b=some p:=(e1 b h).symm.trans hb
      obtain ⟨cs,t,fr,h1,h2⟩:=hSt.agree b p hb
      exact ⟨cs,t,fr,(hkept.block b h).trans h1,h2⟩
    · exact hs.agree b p ((e2 b h).symm.trans hb)
  have h:=hSt.call hkept (fun b hb=>e1 b hb) hA
  refine ⟨h.os,h.tape,h.output,h.size,h.frame,h.agree,fun f hf => ?_,fun f hf b hb => ?_,.cons (fun f hf b hb hb' => ?_) h.apart⟩
  · rcases List.mem_cons.1 hf with rfl | hf
    · obtain ⟨m,ys,hown,hM⟩:=hs.ents _ List.mem_cons_self
      exact ⟨m,ys,hown,fun c hc=>(e2 c (by have:=hnew c hc;omega)).trans (hM c hc)⟩
    · exact h.ents f hf
  · rcases List.mem_cons.1 hf with rfl | hf
    · exact .inr (Nat.le_trans hSt.size (hnew b hb))
    · exact h.mine f hf b hb
  · have h1:=Ent.lt (hSt.ents f hf) hb'
    have h2:=hnew b hb
    omega
theorem O_lentS {f:FuncId} {args:List Operand} {ats:Array TypeId} {j:Nat} {v:Value} {e e2:TypeId} {xs:List Value} {l r:List ByteArray} (hcb:CB P f) (ha:args.map (evT T)=[v]) (hSt:St w0 X M H w) (hj:H[j]? = some (.stk v e 1 xs)) (hk:skr M v xs l)
    (hc : ∀ {M1:Mm},Agree M1 w→repL M1 v l→Calls P f #[v] w (GivesL M1 w [] (fun M' u L' => ∃ v0,u=v0∧L'=[.row v0 e2 1]∧repL M' v0 r)))
    (k : ∀ u M2 w',Mm.ext w0.heap.size X M M2→repL M2 u r→St w0 X M2 (.row u e2 1::H) w'→K (updO T dst u) w'):OW P n Q ⟨dst,.call ⟨.value (.func f),args.toArray,ats⟩,ty,pos,af,g⟩ T w K:=by
  obtain ⟨fn,c,hf,hname,hb⟩:=hcb
  obtain ⟨M1,hA1,h1⟩:=stk_read hSt.agree (hSt.ents _ (List.mem_of_getElem? hj)) hk
  refine O_call hf hname hb ha (hc hA1 h1) fun en w' ⟨u,M',L',he,hx,hs,v0,hu,hL,hr⟩ => ?_
  subst hu
  subst hL
  obtain ⟨M2,hM2,hext,hS2⟩:=hSt.fresh hs
  exact ⟨u,he,k u M2 w' hext (repL_other hr hM2) hS2⟩
theorem St.turnStk {j b m k:Nat} {v v':Value} {e:TypeId} {xs xs':List Value} {w':World} (hSt:St w0 X M H w) (hj:H[j]? = some (.stk v e k xs)) (hv:v.ownBlock=some b) (hv':v'.ownBlock=some b) (hos:w'.os=w.os) (htp:w'.tape=w.tape) (hout:w'.output=w.output)
    (hsz:w'.heap.size=w.heap.size) (ho : ∀ c,c≠b→w'.heap[c]? = w.heap[c]?) (hown:w'.ownsRow 0 e k v' m xs'):St w0 X M (H.set j (.stk v' e k xs')) w':=by
  have hF:=hSt.perm (perm_front hj)
  have hapart:=List.pairwise_cons.1 hF.apart
  have hM:M b=none:=(hF.ents _ List.mem_cons_self).2 b hv
  have hmine:=hF.mine _ List.mem_cons_self b hv
  have hne : ∀ f∈H.eraseIdx j,∀ c,f.blk=some c→c≠b:=fun f hf c hc h=>by
    subst h
    exact hapart.1 f hf c hv hc
  have hnew:St w0 X M (.stk v' e k xs'::H.eraseIdx j) w':=by
    refine ⟨hos.trans hSt.os,htp.trans hSt.tape,hout.trans hSt.output,by rw [hsz];exact hSt.size,fun c hlt hno => ?_,fun c p hc => ?_,fun f hf => ?_,fun f hf c hc => ?_,?_⟩
    · rw [ho c fun h=>by
        subst h
        rcases hmine with h | h
        · exact hno h
        · omega]
      exact hSt.frame c hlt hno
    · rw [ho c fun h=>by subst h;rw [hM] at hc;cases hc]
      exact hSt.agree c p hc
    · rcases List.mem_cons.1 hf with rfl | hf
      · refine ⟨⟨m,hown⟩,fun c hc => ?_⟩
        rw [hv'] at hc
        cases hc
        exact hM
      · exact Ent.kept (hF.ents f (List.mem_cons_of_mem _ hf)) fun c hc=>⟨ho c (hne f hf c hc),rfl⟩
    · rcases List.mem_cons.1 hf with rfl | hf
      · have hc:v'.ownBlock=some c:=hc
        rw [hv'] at hc
        cases hc
        exact hmine
      · exact hF.mine f (List.mem_cons_of_mem _ hf) c hc
    · refine .cons (fun f hf c hc hc' => ?_) hapart.2
      have hc:v'.ownBlock=some c:=hc
      rw [hv'] at hc
      cases hc
      exact hne f hf b hc' rfl
  exact hnew.perm (perm_set _ hj)
end
def delL {α : Type} (l:List α) (lo hi:Int):Option (List α):=if 0≤lo∧lo<hi∧hi≤l.length then some (l.take lo.toNat++l.drop hi.toNat) else none
theorem delL_some {α : Type} {l r:List α} {lo hi:Int} (h:delL l lo hi=some r):(0≤lo∧lo<hi∧hi≤l.length)∧r=l.take lo.toNat++l.drop hi.toNat:=by
  unfold delL at h
  split at h
  · rename_i hk
    simp only [Option.some.injEq] at h
    exact ⟨hk,h.symm⟩
  · cases h
end Go.Proofs.Yteilffoclpgijaa
namespace Go.Proofs.Yteilffoclpgijaa
open Go.RowKit Go.Shelf Go.Sort
open Rep (rep)
def rhoD:Ren:=⟨fun _=>66,fun k=>match k with | 3=>3 | 4=>4 | 9=>9 | 24=>72 | _=>0,fun k=>k⟩
theorem agg_no {t:TypeId} {d:TypeDesc} (h:Try.prog.underlying t=some d) (hd:d.isRow=false) (w:World):(isAgg t).run Try.prog w = .ok false w:=by
  unfold isAgg
  rw [Sem.run_bind,run_underlying h w]
  cases d<;>simp_all [TypeDesc.isRow]
theorem zero_at {t:TypeId} {v:Value} (h:(Try.prog.info? t).bind (·.zero)=some v) (w:World):(zeroValue t).run Try.prog w = .ok v w:=by
  cases hi:Try.prog.info? t with
  | none=>rw [hi] at h;cases h
  | some i =>
    rw [hi] at h
    have h:i.zero=some v:=h
    simp [zeroValue,typeInfo,hi,Sem.run_bind,h]
theorem layD:Lays2.n24 Try.prog rhoD where
  mixed:=by kernel_rfl
  f24:=by kernel_rfl
  t0:=Try.underlying0
  a0:=fun w=>agg_no Try.underlying0 rfl w
  z0:=fun w=>run_sizeOf' (by kernel_rfl) w
  v0:=fun w=>zero_at (by kernel_rfl) w
  t3:=Try.underlying3
  a3:=fun w=>agg_no Try.underlying3 rfl w
  z3:=fun w=>run_sizeOf' (by kernel_rfl) w
  v3:=fun w=>zero_at (by kernel_rfl) w
  t4:=Try.underlying4
  a4:=fun w=>agg_no Try.underlying4 rfl w
  z4:=fun w=>run_sizeOf' (by kernel_rfl) w
  v4:=fun w=>zero_at (by kernel_rfl) w
  t9:=Try.underlying9
  a9:=fun w=>agg_no Try.underlying9 rfl w
  z9:=fun w=>run_sizeOf' (by kernel_rfl) w
  v9:=fun w=>zero_at (by kernel_rfl) w
  t24:=Try.underlying72
  a24:=fun w=>agg_no Try.underlying72 rfl w
  z24:=fun w=>run_sizeOf' (by kernel_rfl) w
  v24:=fun w=>zero_at (by kernel_rfl) w
  i9:=by kernel_rfl
def bts (s:ByteArray):List UInt8:=s.data.toList
section
variable {n:Nat} {Q:Exit→Tm→World→Prop} {T:Tm} {w w0:World} {X:Nat→Prop} {M:Mm} {H:List Ent} {K:Tm→World→Prop} {dst:Option Tmp} {ty:TypeId} {pos:String} {af:Array Edge} {g:Option (Nat × Bool)}
theorem O_delS {args:List Operand} {ats:Array TypeId} {j:Nat} {v:Value} {e:TypeId} {xs:List Value} {l r:List ByteArray} {lo hi:Int} (hcb:CB Try.prog 66) (ha:args.map (evT T)=[v,.int .i64 lo,.int .i64 hi]) (hSt:St w0 X M H w)
    (hj:H[j]? = some (.stk v e 1 xs)) (hk:skr M v xs l) (hr:delL l lo hi=some r) (k : ∀ v' xs' w',skr M v' xs' r→St w0 X M (H.set j (.stk v' e 1 xs')) w'→K (updO T dst v') w') :
    OW Try.prog n Q ⟨dst,.call ⟨.value (.func 66),args.toArray,ats⟩,ty,pos,af,g⟩ T w K:=by
  obtain ⟨⟨h0,hlt,hhi⟩,hre⟩:=delL_some hr
  obtain ⟨fn,c,hf,hname,hb⟩:=hcb
  obtain ⟨⟨m,hxl,⟨rfl,rfl⟩ | ⟨b,cap,cur,rfl,_,hh,hnc,hcm,hcs,htake⟩⟩,hM⟩:=hSt.ents _ (List.mem_of_getElem? hj)
  · obtain ⟨⟨a,cap,hv,hc⟩,_⟩:=hk
    simp only [Value.slice.injEq] at hv
    omega
  obtain ⟨⟨a,cap',hv,hc⟩,hby,hl,hel⟩:=hk
  simp only [Value.slice.injEq] at hv
  obtain ⟨rfl,rfl,rfl⟩:=hv
  have hx : ∀ i (hi:i<l.length),cur[i]? = some (.string l[i]):=fun i hi=>by
    have h1:=(hel i l[i] (List.getElem?_eq_getElem hi)).1
    have h2:=sl_one h1
    have h3:xs[i]? = some (.string l[i]):=by
      have e:i*Rep.k ByteArray=i:=Nat.mul_one i
      rw [e] at h2
      exact h2
    rw [← htake,List.getElem?_take] at h3
    split at h3
    · simpa using h3
    · cases h3
  have hsmall : ∀ x∈l,x.size≤140737488351232:=fun x hxm=>by
    obtain ⟨i,hi⟩:=List.getElem?_of_mem hxm
    exact (hel i x hi).2
  have hst : ∀ s:ByteArray,encStr (bts s) = .string s:=fun s=>rfl
  have hH:Holds encStr w b 0 (l.map bts).toArray:=fun i hi=>by
    have hi:i<l.length:=by simpa using hi
    refine ⟨?_,by simp [World.frozen?,hh]⟩
    simp only [World.cell?,hh,Nat.zero_add]
    rw [hx i hi,getElem!_pos _ i (by simpa using hi)]
    simp [hst]
  have hd:=Any.slices_Delete_string layD b 0 cap lo.toNat hi.toNat (l.map bts) w hH (by simpa using hc) (by unfold maxLen at hcm;omega) (by omega) (by simp;omega)
  rw [List.length_map,Int.toNat_of_nonneg h0,Int.toNat_of_nonneg (by omega)] at hd
  refine O_call hf hname hb ha hd fun en w' ⟨he,q,hw⟩ => ?_
  have hrl:r.length=l.length-(hi.toNat-lo.toNat):=by rw [hre];simp;omega
  have hnews : ∀ i (h:i<r.length),((l.map bts).take lo.toNat++(l.map bts).drop hi.toNat++List.replicate (hi.toNat-lo.toNat) []).toArray[i]! = bts r[i]:=fun i h=>by
    rw [← List.map_take,← List.map_drop,← List.map_append,← hre,getElem!_pos _ i (by simp;omega),List.getElem_toArray,List.getElem_append_left (by simpa using h),List.getElem_map]
  have hns:((l.map bts).take lo.toNat++(l.map bts).drop hi.toNat++List.replicate (hi.toNat-lo.toNat) []).toArray.size=l.length:=by simp;omega
  generalize hng:((l.map bts).take lo.toNat++(l.map bts).drop hi.toNat++List.replicate (hi.toNat-lo.toNat) []).toArray=news at hw hnews hns
  refine ⟨_,he,k _ (r.map Value.string) w' ⟨⟨_,cap,by rw [hrl],by omega⟩,?_,?_,fun i x hxi => ?_⟩ ?_⟩
  · have:=Nat.mul_le_mul_right (Rep.bytes ByteArray) (show r.length≤l.length by omega)
    omega
  · rw [List.length_map];exact (Nat.mul_one _).symm
  · have hxm:x∈r:=List.mem_of_getElem? hxi
    have hxl:x∈l:=by
      rw [hre] at hxm
      rcases List.mem_append.1 hxm with h | h
      · exact List.mem_of_mem_take h
      · exact List.mem_of_mem_drop h
    refine ⟨?_,hsmall x hxl⟩
    have hi:=(List.getElem?_eq_some_iff.1 hxi).1
    show sl (r.map Value.string) (i*1) 1=[.string x]
    refine ext_get fun p => ?_
    cases p with
    | zero=>rw [sl_get _ _ _ _ (by omega),Nat.add_zero,Nat.mul_one,List.getElem?_map,hxi];rfl
    | succ p=>rw [sl_get_none _ _ _ _ (by omega)];rfl
  · have hblk:w'.heap[b]? = some (.cells (putCells encStr 0 news cur) e (0,0)):=by
      rw [hw]
      show (w.heap.modify b _)[b]? = _
      rw [Array.getElem?_modify,if_pos rfl,hh]
      rfl
    refine hSt.turnStk (b:=b) (m:=r.length) hj rfl rfl (by rw [hw];rfl) (by rw [hw];rfl) (by rw [hw];rfl) (by rw [hw];simp [ahead]) (fun p hp => ?_) ⟨by simp,.inr ⟨b,cap,_,by rw [hrl],Nat.zero_le _,hblk,by omega,hcm,by simpa [putCells] using hcs,?_⟩⟩
    · rw [hw]
      show (w.heap.modify b _)[p]? = _
      rw [Array.getElem?_modify,if_neg (fun h=>hp h.symm)]
    · refine List.ext_getElem? fun i => ?_
      rw [List.getElem?_take,List.getElem?_map]
      by_cases hi:i<r.length
      · rw [if_pos (by omega),Array.getElem?_toList,putCells,Array.getElem?_mapIdx,hx i (by omega),List.getElem?_eq_getElem hi]
        simp only [Option.map_some,Nat.zero_le,Nat.zero_add,true_and,Nat.sub_zero]
        rw [if_pos (by omega),hnews i hi,hst]
      · rw [if_neg (by omega),List.getElem?_eq_none (by omega)]
        rfl
end
end Go.Proofs.Yteilffoclpgijaa
