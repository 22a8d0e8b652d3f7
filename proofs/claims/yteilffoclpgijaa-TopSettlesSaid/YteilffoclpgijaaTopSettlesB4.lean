/- What the proof of TopSettles rests on, part 4: rules of walks, what functions compute, and plain laws of it. -/
import Derived.Test.YteilffoclpgijaaTopSettlesB3
import Derived.Test.YteilffoclpgijaaProg
import Derived.Shelf.Slices.Delete
namespace Go.Proofs.Yteilffoclpgijaa
set_option maxHeartbeats 4000000
set_option maxRecDepth 100000
open Go.RowKit
open Rep (rep)
set_option linter.unusedVariables false
abbrev Ky := @GReader.p0
abbrev Kz := @GReader.p1
abbrev Ke := @q0w
abbrev Vw := @q51
def qc8 (fu:Nat) (x1:GReader):Option (Int × GReader) :=
 (bif x1.s.toList==(⟨#[]⟩:ByteArray).toList then
 (some ({ x1 with bad:=true }:GReader)).bind fun d5 =>
 some (0,d5)
 else
 (q0j x1.s 0).bind fun c6 =>
 (qyr x1.s (some 1) none).bind fun s9 =>
 (q3k s9).bind fun _ =>
 (some ({ x1 with s:=s9 }:GReader)).bind fun d13 =>
 some (IntKind.wrap .i64 c6,d13))
theorem qec {M:Mm} {w:World} {bx1:Nat} {cx1:List Value} {x1:GReader} {fu:Nat} {r:Int × GReader} (hS:St w (qai [.box bx1 cx1 136]) M [.box bx1 cx1 136] w) (hcx1:rep M cx1 x1) (hz:qc8 fu x1=some r) :
    Calls Try.prog 78 #[.pointer (some ⟨bx1,0,none⟩)] w (qcv M w [.box bx1 cx1 136] (fun M' u L' => ∃ k0,u = .int .i64 r.1∧L'=[.box bx1 k0 136]∧rep M' k0 r.2)):=by
 refine Zh Try.func78 rfl 27 rfl rfl (by kernel_rfl) fun T hT => ?_
 have hT_0:T 0 = .pointer (some ⟨bx1,0,none⟩):=hT 0
 clear hT
 have hE:=Qg w.heap.size (qai [.box bx1 cx1 136]) M
 rw [qc8] at hz
 refine Qh <|Qi <|Qc (Qj (.int .i64 0) rfl) ?_
 refine Qf (Qa ?_)
 refine Qh <|Qh <|Qi <|Qc (Qe (.pointer (some ⟨bx1,0,none⟩)) hT_0) <|Qc (Q6 rfl) <|Qc (Qp qou rfl) <|Qc (Qm (.string x1.s) ts9 rfl (hS.bvB 0 rfl) (Ky (rr hcx1)).1) <|Qc (q98 rfl rfl) ?_
 refine Qf (Qa ?_)
 refine Qr rfl (fun hc2 => ?_) (fun hc2 => ?_)
 replace hz:=Qn hz hc2
 refine Qh <|Qi <|Qc (Qe (.pointer (some ⟨bx1,0,none⟩)) hT_0) <|Qc (Q6 rfl) <|Qc (Qp qov rfl) ?_
 obtain ⟨d5,hd4,hz⟩:=Qb hz
 refine Qs (Q8 0 1 hS rfl hcx1 rfl rfl (rb true:rep M _ _) rfl rfl (GReader.u1 (rr hcx1) (Lf (Kz (rr hcx1)) (rb true:rep M _ _))) hd4 ?_)
 intro cs4 w3 hb4 ha4 hs4 hS
 refine Qf (Qa ?_)
 refine Qh <|Qi <|Qc (Qj (.int .i64 0) rfl) ?_
 refine Qf (Qa ?_)
 cases hz
 exact Q4 (Qq (Yg rfl rfl ⟨_,M,_,rfl,hE,(hS.sel (H':=[.box bx1 cs4 136]) [0] (by decide) rfl),cs4,rfl,rfl,hb4⟩))
 replace hz:=Qo hz hc2
 refine Qt (Qa ?_)
 refine Qh <|Qi <|Qc (Qe (.pointer (some ⟨bx1,0,none⟩)) hT_0) <|Qc (Q6 rfl) <|Qc (Qp qou rfl) <|Qc (Qm (.string x1.s) ts9 rfl (hS.bvB 0 rfl) (Ky (rr hcx1)).1) ?_
 obtain ⟨c6,hx7,hz⟩:=Qb hz
 refine Qc (q5n Zd rfl rfl hx7) <|Qc (Qj (.int .u8 c6) rfl) ?_
 refine Qf (Qa ?_)
 refine Qh <|Qi <|Qc (Qe (.pointer (some ⟨bx1,0,none⟩)) hT_0) <|Qc (Qe (.pointer (some ⟨bx1,0,none⟩)) hT_0) <|Qc (Q6 rfl) <|Qc (Qp qou rfl) <|Qc (Qm (.string x1.s) ts9 rfl (hS.bvB 0 rfl) (Ky (rr hcx1)).1) ?_
 obtain ⟨s9,hx8,hz⟩:=Qb hz
 obtain ⟨⟨pp8,qq8⟩,hc8,hx8⟩:=Option.map_eq_some_iff.1 hx8
 refine Qc ((hx8 ▸ qxg (l:=(some 1)) (h:=none) Zd rfl (evs rfl) evn hc8)) <|Qc (Q6 rfl) <|Qc (Qp qou rfl) ?_
 obtain ⟨_,hx11,hz⟩:=Qb hz
 have hx11:=Ke hx11
 obtain ⟨d13,hd12,hz⟩:=Qb hz
 refine Qs (Q8 0 1 hS rfl hcx1 rfl rfl (Vw hx11:rep M [Value.string s9] s9) rfl rfl (GReader.u0 (rr hcx1) (Lf (Ky (rr hcx1)) (Vw hx11:rep M [Value.string s9] s9))) hd12 ?_)
 intro cs12 w10 hb12 ha12 hs12 hS
 refine Qf (Qa ?_)
 refine Qh <|Qi <|Qc (Qe (.int .u8 c6) rfl) <|Qc (Vn ⟨_,Zm⟩ Zp rfl) <|Qc (Qj (.int .i64 (IntKind.wrap .i64 c6)) rfl) ?_
 refine Qf (Qa ?_)
 cases hz
 exact Q4 (Yg rfl rfl ⟨_,M,_,rfl,hE,(hS.sel (H':=[.box bx1 cs12 136]) [0] (by decide) rfl),cs12,rfl,rfl,hb12⟩)
def qbp (fu:Nat):Nat→GReader→Int→Int→Option (Int × GReader)
 | 0,_,_,_=>none
 | n+1,d6,y7,y8 =>
 (bif decide (y8<6) then
 (qc8 fu d6).bind fun r16 =>
 (qbp fu n) r16.2 (orI .i64 (IntKind.wrap .i64 (y7*2 ^ (min (Int.toNat 8) (IntKind.bits .i64)))) r16.1) (IntKind.wrap .i64 (y8+1))
 else
 some (IntKind.wrap .i64 (y7-140737488355328),d6))
def qfl (fu:Nat) (x1:GReader):Option (Int × GReader) :=
 qbp fu fu x1 0 0
theorem qq2 {M:Mm} {w:World} {bx1:Nat} {cx1:List Value} {x1:GReader} {fu:Nat} {r:Int × GReader} (hS:St w (qai [.box bx1 cx1 136]) M [.box bx1 cx1 136] w) (hcx1:rep M cx1 x1) (hz:qfl fu x1=some r) :
    Calls Try.prog 79 #[.pointer (some ⟨bx1,0,none⟩)] w (qcv M w [.box bx1 cx1 136] (fun M' u L' => ∃ k0,u = .int .i64 r.1∧L'=[.box bx1 k0 136]∧rep M' k0 r.2)):=by
 refine Zh Try.func79 rfl 14 rfl rfl (by kernel_rfl) fun T hT => ?_
 have hT_0:T 0 = .pointer (some ⟨bx1,0,none⟩):=hT 0
 clear hT
 have hE:=Qg w.heap.size (qai [.box bx1 cx1 136]) M
 rw [qfl] at hz
 refine Qh <|Qi <|Qc (Qj (.int .i64 0) rfl) ?_
 refine Qf (Qa ?_)
 refine Qh <|Qi <|Qc (Qj (.int .i64 0) rfl) ?_
 refine Qf (Qa ?_)
 refine Qh <|Qh <|Qi <|Qc (Qe (.int .i64 0) rfl) ?_
 refine Qf (Qa ?_)
 refine Qv ?_
 refine Zw (fun k10 T' w' => ∃ M3 cs5 d6 y7 y8,Mm.ext w.heap.size (qai [.box bx1 cx1 136]) M M3∧St w (qai [.box bx1 cx1 136]) M3 [.box bx1 cs5 136] w'∧rep M3 cs5 d6∧T' 0 = .pointer (some ⟨bx1,0,none⟩)∧T' 3 = .int .i64 y7∧T' 4 = .int .i64 y8∧qbp fu k10 d6 y7 y8=some r) fu ?_ ?_ ?_
 exact ⟨M,cx1,x1,(0:Int),(0:Int),(Qg _ _ _),hS,hcx1,hT_0,rfl,rfl,hz⟩
 rintro T' w' ⟨_,_,_,_,_,_,_,_,_,_,_,hz⟩
 rw [qbp] at hz
 cases hz
 intro k10
 rintro T4 w2 ⟨M3,cs5,d6,y7,y8,hx12,hS,hb5,hT4_0,hT4_3,hT4_4,hz⟩
 replace hE:=Qd hE hx12
 have hF11:=hx12
 rw [qbp] at hz
 obtain ⟨rec9,hrec9⟩ : ∃ f,f=qbp fu k10:=⟨_,rfl⟩
 rw [← hrec9] at hz
 refine Qh <|Qi <|Qc (Zv hT4_4 rfl) ?_
 refine Qf (Qa ?_)
 refine Qh ?_
 refine Qr rfl (fun hc13 => ?_) (fun hc13 => ?_)
 replace hz:=Qn hz hc13
 refine Qt (Qa ?_)
 refine Qh <|Qv <|Qi <|Qc (Qe (.int .i64 y7) hT4_3) <|Qc (q7m rfl rfl (by decide)) <|Qc (Qe (.pointer (some ⟨bx1,0,none⟩)) hT4_0) ?_
 obtain ⟨r16,hr15,hz⟩:=Qb hz
 refine Qs (Zl (vs:=[.pointer (some ⟨bx1,0,none⟩)]) (L:=[.box bx1 cs5 136]) (R:=[]) (rv:=(fun M' u L' => ∃ k0,u = .int .i64 r16.1∧L'=[.box bx1 k0 136]∧rep M' k0 r16.2)) q09 (Zu rfl) hS (hS.sel [0] (by decide) rfl) (fun hS=>qec hS hb5 hr15) ?_)
 rintro u15 M15 w14 L15 hx15 ⟨k0_15,rfl,hL15,f15_0⟩ hS
 replace hS:=hS _ hL15
 replace hF11:=Qd hF11 hx15
 refine Qc (Y_or rfl rfl) <|Qc (Qj (.int .i64 (orI .i64 (IntKind.wrap .i64 (y7*2 ^ (min (Int.toNat 8) (IntKind.bits .i64)))) r16.1)) rfl) ?_
 refine Qf (Za ?_)
 refine (Qa ?_)
 refine Qi <|Qc (Zz hT4_4 rfl) <|Qc (Qe (.int .i64 (IntKind.wrap .i64 (y8+1))) rfl) ?_
 refine Qf (Qa ?_)
 exact ⟨M15,k0_15,r16.2,(orI .i64 (IntKind.wrap .i64 (y7*2 ^ (min (Int.toNat 8) (IntKind.bits .i64)))) r16.1),(IntKind.wrap .i64 (y8+1)),hF11,hS,f15_0,hT4_0,rfl,rfl,(by rw [← hrec9];exact hz)⟩
 replace hz:=Qo hz hc13
 refine Zq <|Qy <|Qy <|Zs ?_
 refine (Qa ?_)
 refine Qh <|Qi <|Qc (Qe (.int .i64 y7) hT4_3) <|Qc (Kg rfl rfl) <|Qc (Qj (.int .i64 (IntKind.wrap .i64 (y7-140737488355328))) rfl) ?_
 refine Qf (Qa ?_)
 cases hz
 exact Q4 (Yg rfl rfl ⟨_,M3,_,rfl,hE,(hS.sel (H':=[.box bx1 cs5 136]) [0] (by decide) rfl),cs5,rfl,rfl,hb5⟩)
def qlj (fu:Nat) (d52:GReader) (d54:GFrame) (y60:Int) (rec61:GReader→GFrame→Int→Option (GFrame × Int)):Option (GFrame × Int) :=
 (qc8 fu d52).bind fun r75 =>
 (qc8 fu r75.2).bind fun r79 =>
 (qfl fu r79.2).bind fun r83 =>
 (some ({ kind:=r75.1,key:=r79.1,n:=r83.1 }:GOp)).bind fun d86 =>
 (app d54.ops ([d86]:List GOp)).bind fun l92 =>
 (some ({ d54 with ops:=l92 }:GFrame)).bind fun d96 =>
 rec61 r83.2 d96 (IntKind.wrap .i64 (y60-1))
def qlk (fu:Nat) (d115:GReader) (d117:GFrame) (y123:Int) (rec124:GReader→GFrame→Int→Option (GFrame × Int)):Option (GFrame × Int) :=
 (qc8 fu d115).bind fun r138 =>
 (app d117.deps ([r138.1]:List Int)).bind fun l145 =>
 (some ({ d117 with deps:=l145 }:GFrame)).bind fun d149 =>
 rec124 r138.2 d149 (IntKind.wrap .i64 (y123-1))
def qll (fu:Nat) (d168:GReader) (d170:GFrame) (y177:Int) (rec178:GReader→GFrame→Int→Option (GFrame × Int)):Option (GFrame × Int) :=
 (qc8 fu d168).bind fun r192 =>
 (app d170.at_ ([r192.1]:List Int)).bind fun l199 =>
 (some ({ d170 with at_:=l199 }:GFrame)).bind fun d203 =>
 (qfl fu r192.2).bind fun r214 =>
 (app d203.vals ([r214.1]:List Int)).bind fun l221 =>
 (some ({ d203 with vals:=l221 }:GFrame)).bind fun d225 =>
 rec178 r214.2 d225 (IntKind.wrap .i64 (y177-1))
def qlm (d170:GFrame) (d241:GFrame):Option (GFrame × Int) :=
 (some d170).bind fun d250 =>
 some (d250,0)
def qga (d170:GFrame) (c259:Bool):Option (GFrame × Int) :=
 (bif c259 then
 (some ({ kind:=Zr.zd,node:=Zr.zd,id:=Zr.zd,ops:=Zr.zd,deps:=Zr.zd,at_:=Zr.zd,vals:=Zr.zd }:GFrame)).bind fun d263 =>
 (some d263).bind fun d274 =>
 some (d274,1)
 else
 qlm d170 (Zr.zd:GFrame))
def qgb (fu:Nat) (d168:GReader) (d170:GFrame) (y177:Int) (rec178:GReader→GFrame→Int→Option (GFrame × Int)) (c234:Bool):Option (GFrame × Int) :=
 (bif c234 then
 qll fu d168 d170 y177 rec178
 else
 (bif d168.bad then
 qga d170 true
 else
 (bif !(d168.s.toList==(⟨#[]⟩:ByteArray).toList) then
 qga d170 true
 else
 (some (qak d170)).bind fun r289 =>
 qga d170 (r289 != 0))))
def qcm (fu:Nat):Nat→GReader→GFrame→Int→Option (GFrame × Int)
 | 0,_,_,_=>none
 | n+1,d168,d170,y177 =>
 (bif decide (y177>0) then
 qgb fu d168 d170 y177 (qcm fu n) (!d168.bad)
 else
 qgb fu d168 d170 y177 (qcm fu n) false)
def qgc (fu:Nat) (d115:GReader) (d117:GFrame) (y123:Int) (rec124:GReader→GFrame→Int→Option (GFrame × Int)) (c158:Bool):Option (GFrame × Int) :=
 (bif c158 then
 qlk fu d115 d117 y123 rec124
 else
 (qc8 fu d115).bind fun r163 =>
 qcm fu fu r163.2 d117 r163.1)
def qcx (fu:Nat):Nat→GReader→GFrame→Int→Option (GFrame × Int)
 | 0,_,_,_=>none
 | n+1,d115,d117,y123 =>
 (bif decide (y123>0) then
 qgc fu d115 d117 y123 (qcx fu n) (!d115.bad)
 else
 qgc fu d115 d117 y123 (qcx fu n) false)
def qgd (fu:Nat) (d52:GReader) (d54:GFrame) (y60:Int) (rec61:GReader→GFrame→Int→Option (GFrame × Int)) (c105:Bool):Option (GFrame × Int) :=
 (bif c105 then
 qlj fu d52 d54 y60 rec61
 else
 (qc8 fu d52).bind fun r110 =>
 qcx fu fu r110.2 d54 r110.1)
def qcn (fu:Nat):Nat→GReader→GFrame→Int→Option (GFrame × Int)
 | 0,_,_,_=>none
 | n+1,d52,d54,y60 =>
 (bif decide (y60>0) then
 qgd fu d52 d54 y60 (qcn fu n) (!d52.bad)
 else
 qgd fu d52 d54 y60 (qcn fu n) false)
def qmm (fu:Nat) (x1:ByteArray):Option (GFrame × Int) :=
 (q3k x1).bind fun _ =>
 (some ({ s:=x1,bad:=Zr.zd }:GReader)).bind fun d6 =>
 (qc8 fu d6).bind fun r11 =>
 (qc8 fu r11.2).bind fun r14 =>
 (qc8 fu r14.2).bind fun r17 =>
 (some ({ kind:=r11.1,node:=r14.1,id:=r17.1,ops:=Zr.zd,deps:=Zr.zd,at_:=Zr.zd,vals:=Zr.zd }:GFrame)).bind fun d19 =>
 (some d19).bind fun d40 =>
 (qc8 fu r17.2).bind fun r47 =>
 qcn fu fu r47.2 d40 r47.1
theorem qtz {M:Mm} {w:World} {x1:ByteArray} {fu:Nat} {r:GFrame × Int} (hA:Agree M w)  (hz:qmm fu x1=some r) :
    Calls Try.prog 67 #[.string x1] w (Gives M w (fun M' u => ∃ c0,u = .tuple #[.agg c0.toArray,.int .i64 r.2]∧rep M' c0 r.1)):=by
 refine Zh Try.func67 rfl 109 rfl rfl (by kernel_rfl) fun T hT => ?_
 have hT_0:T 0 = .string x1:=hT 0
 clear hT
 have hE:=Qg w.heap.size noX M
 have hS:St w noX M [] w:=Zx hA
 rw [qmm] at hz
 refine Qh <|Qi ?_
 refine Qs (Zg qy2 hS ?_)
 intro b3 w2 hb3 hS
 have zb3:rep M (Zr.zc GFrame) (Zr.zd:GFrame):=Zr.zr
 refine Qc (Qj (.int .i64 0) rfl) ?_
 refine Qf (Qa ?_)
 refine Qh <|Qi <|Qc (Qe (.string x1) hT_0) ?_
 obtain ⟨_,hx5,hz⟩:=Qb hz
 have hx5:=Ke hx5
 have k4_0:=GReader.w0 (Zr.zr:rep M (Zr.zc GReader) (Zr.zd:GReader)) (Vw hx5:rep M [Value.string x1] x1)
 obtain ⟨d6,hd4,hz⟩:=Qb hz
 obtain ⟨cs4,hf4,ha4⟩ : ∃ cs,qbj (([(0,1),(1,1)]:List (Nat × Nat))[·]?) (Zr.zc GReader) [(0,.string x1)]=some cs∧rep M cs d6:=⟨_,(Q9 (Zr.zr:rep M (Zr.zc GReader) (Zr.zd:GReader)) rfl rfl (Rep.len (Vw hx5:rep M [Value.string x1] x1)) (by decide) Z2),Z3 (x:=({ s:=x1,bad:=Zr.zd }:GReader)) k4_0 hd4⟩
 refine Qc (Zt [(0,.string x1)] za4 (Ym rfl Vb) hf4) ?_
 refine Qs (Yo (v := .agg cs4.toArray) (cs:=cs4) rfl rfl hS ?_)
 intro b8 w7 hb8 hS
 refine Qc (Qj (.pointer (some ⟨b8,0,none⟩)) rfl) ?_
 refine Qf (Qa ?_)
 refine Qh <|Qi <|Qc (Qe (.pointer (some ⟨b8,0,none⟩)) rfl) ?_
 obtain ⟨r11,hr10,hz⟩:=Qb hz
 refine Qs (Zl (vs:=[.pointer (some ⟨b8,0,none⟩)]) (L:=[.box b8 cs4 136]) (R:=[.box b3 (Zr.zc GFrame) 118]) (rv:=(fun M' u L' => ∃ k0,u = .int .i64 r11.1∧L'=[.box b8 k0 136]∧rep M' k0 r11.2)) q09 (Zu rfl) hS (hS.sel [0,1] (by decide) rfl) (fun hS=>qec hS ha4 hr10) ?_)
 rintro u10 M10 w9 L10 hx10 ⟨k0_10,rfl,hL10,f10_0⟩ hS
 replace hS:=hS _ hL10
 refine Qc (Qe (.pointer (some ⟨b8,0,none⟩)) rfl) ?_
 obtain ⟨r14,hr13,hz⟩:=Qb hz
 refine Qs (Zl (vs:=[.pointer (some ⟨b8,0,none⟩)]) (L:=[.box b8 k0_10 136]) (R:=[.box b3 (Zr.zc GFrame) 118]) (rv:=(fun M' u L' => ∃ k0,u = .int .i64 r14.1∧L'=[.box b8 k0 136]∧rep M' k0 r14.2)) q09 (Zu rfl) hS (hS.sel [0,1] (by decide) rfl) (fun hS=>qec hS f10_0 hr13) ?_)
 rintro u13 M13 w12 L13 hx13 ⟨k0_13,rfl,hL13,f13_0⟩ hS
 replace hS:=hS _ hL13
 refine Qc (Qe (.pointer (some ⟨b8,0,none⟩)) rfl) ?_
 obtain ⟨r17,hr16,hz⟩:=Qb hz
 refine Qs (Zl (vs:=[.pointer (some ⟨b8,0,none⟩)]) (L:=[.box b8 k0_13 136]) (R:=[.box b3 (Zr.zc GFrame) 118]) (rv:=(fun M' u L' => ∃ k0,u = .int .i64 r17.1∧L'=[.box b8 k0 136]∧rep M' k0 r17.2)) q09 (Zu rfl) hS (hS.sel [0,1] (by decide) rfl) (fun hS=>qec hS f13_0 hr16) ?_)
 rintro u16 M16 w15 L16 hx16 ⟨k0_16,rfl,hL16,f16_0⟩ hS
 replace hS:=hS _ hL16
 have k18_0:=Kr (Zr.zr:rep M16 (Zr.zc GFrame) (Zr.zd:GFrame)) (ri r11.1:rep M16 _ _)
 have k18_1:=Ks k18_0 (ri r14.1:rep M16 _ _)
 have k18_2:=Ku k18_1 (ri r17.1:rep M16 _ _)
 obtain ⟨d19,hd18,hz⟩:=Qb hz
 obtain ⟨cs18,hf18,ha18⟩ : ∃ cs,qbj (([(0,1),(1,1),(2,1),(3,1),(4,1),(5,1),(6,1)]:List (Nat × Nat))[·]?) (Zr.zc GFrame) [(0,.int .i64 r11.1),(1,.int .i64 r14.1),(2,.int .i64 r17.1)]=some cs∧rep M16 cs d19:=⟨_,(Q9 (Zr.zr:rep M16 (Zr.zc GFrame) (Zr.zd:GFrame)) rfl rfl (Rep.len (ri r11.1:rep M16 _ _)) (by decide) (Q9 k18_0 rfl rfl (Rep.len (ri r14.1:rep M16 _ _)) (by decide) (Q9 k18_1 rfl rfl (Rep.len (ri r17.1:rep M16 _ _)) (by decide) Z2))),Z3 (x:=({ kind:=r11.1,node:=r14.1,id:=r17.1,ops:=Zr.zd,deps:=Zr.zd,at_:=Zr.zd,vals:=Zr.zd }:GFrame)) k18_2 hd18⟩
 have hp20:sl cs18 3 1=[.slice none 0 0]:=(Yw hf18 (by rfl)).trans (by rfl)
 replace hS:=hS.nilRow 65 3
 have hp22:sl cs18 4 1=[.slice none 0 0]:=(Yw hf18 (by rfl)).trans (by rfl)
 replace hS:=hS.nilRow 3 1
 have hp24:sl cs18 5 1=[.slice none 0 0]:=(Yw hf18 (by rfl)).trans (by rfl)
 replace hS:=hS.nilRow 3 1
 have hp26:sl cs18 6 1=[.slice none 0 0]:=(Yw hf18 (by rfl)).trans (by rfl)
 replace hS:=hS.nilRow 3 1
 refine Qc (Zt [(0,.int .i64 r11.1),(1,.int .i64 r14.1),(2,.int .i64 r17.1)] qv5 (Ym rfl (Ym rfl (Ym rfl Vb))) hf18) ?_
 refine Qs (Zg qy2 hS ?_)
 intro b29 w28 hb29 hS
 have zb29:rep M16 (Zr.zc GFrame) (Zr.zd:GFrame):=Zr.zr
 have hp30:sl (Zr.zc GFrame) 3 1=[.slice none 0 0]:=by rfl
 replace hS:=hS.nilRow 65 3
 have hp32:sl (Zr.zc GFrame) 4 1=[.slice none 0 0]:=by rfl
 replace hS:=hS.nilRow 3 1
 have hp34:sl (Zr.zc GFrame) 5 1=[.slice none 0 0]:=by rfl
 replace hS:=hS.nilRow 3 1
 have hp36:sl (Zr.zc GFrame) 6 1=[.slice none 0 0]:=by rfl
 replace hS:=hS.nilRow 3 1
 obtain ⟨d40,hd39,hz⟩:=Qb hz
 refine Qs (Q8 4 7 hS rfl zb29 rfl rfl ha18 rfl rfl (Lf (rr zb29) ha18) hd39 ?_)
 intro cs39 w38 hb39 ha39 hs39 hS
 have hp41:sl cs39 (0+3) 1=[(.slice none 0 0)]:=Kl hs39 hp20 (by decide)
 have hp42:sl cs39 (0+4) 1=[(.slice none 0 0)]:=Kl hs39 hp22 (by decide)
 have hp43:sl cs39 (0+5) 1=[(.slice none 0 0)]:=Kl hs39 hp24 (by decide)
 have hp44:sl cs39 (0+6) 1=[(.slice none 0 0)]:=Kl hs39 hp26 (by decide)
 refine Qf (Qa ?_)
 refine Qh <|Qh <|Qi <|Qc (Qe (.pointer (some ⟨b8,0,none⟩)) rfl) ?_
 obtain ⟨r47,hr46,hz⟩:=Qb hz
 refine Qs (Zl (vs:=[.pointer (some ⟨b8,0,none⟩)]) (L:=[.box b8 k0_16 136]) (R:=[.row (.slice none 0 0) 3 1,.row (.slice none 0 0) 3 1,.row (.slice none 0 0) 3 1,.row (.slice none 0 0) 65 3,.box b29 cs39 118,.row (.slice none 0 0) 3 1,.row (.slice none 0 0) 3 1,.row (.slice none 0 0) 3 1,.row (.slice none 0 0) 65 3,.box b3 (Zr.zc GFrame) 118]) (rv:=(fun M' u L' => ∃ k0,u = .int .i64 r47.1∧L'=[.box b8 k0 136]∧rep M' k0 r47.2)) q09 (Zu rfl) hS (hS.sel [9,0,1,2,3,4,5,6,7,8,10] (by decide) rfl) (fun hS=>qec hS f16_0 hr46) ?_)
 rintro u46 M46 w45 L46 hx46 ⟨k0_46,rfl,hL46,f46_0⟩ hS
 replace hS:=hS _ hL46
 replace zb3:=Rep.mono (hx10.1.trans (hx13.1.trans (hx16.1.trans hx46.1))) zb3
 replace hb39:=Rep.mono hx46.1 hb39
 replace hE:=Qd hE (hx10.trans (hx13.trans (hx16.trans hx46)))
 refine Qc (Qj (.int .i64 r47.1) rfl) ?_
 refine Qf (Qa ?_)
 refine Qv ?_
 refine Zw (fun k62 T' w' => ∃ M49 cs51 d52 cs53 d54 v55 y60,Mm.ext w.heap.size noX M46 M49∧St w noX M49 [.box b8 cs51 136,.row (.slice none 0 0) 3 1,.row (.slice none 0 0) 3 1,.row (.slice none 0 0) 3 1,.row (.slice none 0 0) 65 3,.box b29 cs53 118,.row (.slice none 0 0) 3 1,.row (.slice none 0 0) 3 1,.row (.slice none 0 0) 3 1,.row v55 65 3,.box b3 (Zr.zc GFrame) 118] w'∧rep M49 cs51 d52∧rep M49 cs53 d54∧sl cs53 (0+3) 1=[v55]∧sl cs53 (0+4) 1=[(.slice none 0 0)]∧sl cs53 (0+5) 1=[(.slice none 0 0)]∧sl cs53 (0+6) 1=[(.slice none 0 0)]∧T' 2 = .pointer (some ⟨b3,0,none⟩)∧T' 4 = .pointer (some ⟨b8,0,none⟩)∧T' 5 = .pointer (some ⟨b29,0,none⟩)∧T' 6 = .int .i64 y60∧qcn fu k62 d52 d54 y60=some r) fu ?_ ?_ ?_
 exact ⟨M46,k0_46,r47.2,cs39,d40,(.slice none 0 0),r47.1,(Qg _ _ _),hS,f46_0,hb39,hp41,hp42,hp43,hp44,rfl,rfl,rfl,rfl,hz⟩
 rintro T' w' ⟨_,_,_,_,_,_,_,_,_,_,_,_,_,_,_,_,_,_,_,hz⟩
 rw [qcn] at hz
 cases hz
 intro k62
 rintro T50 w48 ⟨M49,cs51,d52,cs53,d54,v55,y60,hx64,hS,hb51,hb53,hp56,hp57,hp58,hp59,hT50_2,hT50_4,hT50_5,hT50_6,hz⟩
 replace zb3:=Rep.mono hx64.1 zb3
 replace hE:=Qd hE hx64
 have hF63:=hx64
 rw [qcn] at hz
 obtain ⟨rec61,hrec61⟩ : ∃ f,f=qcn fu k62:=⟨_,rfl⟩
 rw [← hrec61] at hz
 refine Q0 (fun T' w' => ∃ M66,Mm.ext w.heap.size noX M49 M66∧St w noX M66 [.box b8 cs51 136,.row (.slice none 0 0) 3 1,.row (.slice none 0 0) 3 1,.row (.slice none 0 0) 3 1,.row (.slice none 0 0) 65 3,.box b29 cs53 118,.row (.slice none 0 0) 3 1,.row (.slice none 0 0) 3 1,.row (.slice none 0 0) 3 1,.row v55 65 3,.box b3 (Zr.zc GFrame) 118] w'∧T' 2 = .pointer (some ⟨b3,0,none⟩)∧T' 4 = .pointer (some ⟨b8,0,none⟩)∧T' 5 = .pointer (some ⟨b29,0,none⟩)∧T' 6 = .int .i64 y60∧qlj fu d52 d54 y60 rec61=some r) ?_ ?_
 have hF101:=Qg w.heap.size noX M49
 refine Q0 (fun T' w' => ∃ M103 c105,Mm.ext w.heap.size noX M49 M103∧St w noX M103 [.box b8 cs51 136,.row (.slice none 0 0) 3 1,.row (.slice none 0 0) 3 1,.row (.slice none 0 0) 3 1,.row (.slice none 0 0) 65 3,.box b29 cs53 118,.row (.slice none 0 0) 3 1,.row (.slice none 0 0) 3 1,.row (.slice none 0 0) 3 1,.row v55 65 3,.box b3 (Zr.zc GFrame) 118] w'∧T' 2 = .pointer (some ⟨b3,0,none⟩)∧T' 4 = .pointer (some ⟨b8,0,none⟩)∧T' 5 = .pointer (some ⟨b29,0,none⟩)∧T' 6 = .int .i64 y60∧T' 29 = .bool c105∧qgd fu d52 d54 y60 rec61 c105=some r) ?_ ?_
 have hF294:=Qg w.heap.size noX M49
 refine Qi <|Qc (Qe (.int .i64 y60) hT50_6) <|Qc (Yr rfl rfl) <|Qc (Qe (.bool (decide (y60>0))) rfl) ?_
 rcases ic hz with ⟨hc295,hz⟩ | ⟨hc295,hz⟩<;>rw [hc295]
 refine Qk rfl rfl (Qe (.pointer (some ⟨b8,0,none⟩)) hT50_4) <|Qk rfl rfl (Q6 rfl) <|Qk rfl rfl (Qp qov rfl) <|Qk rfl rfl (Qm (.bool d52.bad) Jl rfl (hS.bvB 0 rfl) (Kz (rr hb51))) <|Qk rfl rfl (Ye rfl) <|Qc (Zy (.bool (!d52.bad)) rfl rfl) ?_
 refine Qf (Qa ?_)
 exact ⟨M49,(!d52.bad),hF294,hS,hT50_2,hT50_4,hT50_5,hT50_6,rfl,hz⟩
 refine Q2 6 rfl ?_
 refine Qf (Qa ?_)
 exact ⟨M49,false,hF294,hS,hT50_2,hT50_4,hT50_5,hT50_6,rfl,hz⟩
 rintro T104 w102 ⟨M103,c105,hx106,hS,hT104_2,hT104_4,hT104_5,hT104_6,hT104_29,hz⟩
 replace zb3:=Rep.mono hx106.1 zb3
 replace hb51:=Rep.mono hx106.1 hb51
 replace hb53:=Rep.mono hx106.1 hb53
 replace hE:=Qd hE hx106
 replace hF101:=Qd hF101 hx106
 rw [qgd] at hz
 refine Qr hT104_29 (fun hc107 => ?_) (fun hc107 => ?_)
 replace hz:=Qn hz hc107
 refine Qt (Qa ?_)
 exact ⟨M103,hF101,hS,hT104_2,hT104_4,hT104_5,hT104_6,hz⟩
 replace hz:=Qo hz hc107
 refine Zq <|Qy <|Qy <|Zs ?_
 refine (Qa ?_)
 refine Qh <|Qh <|Qi <|Qc (Qe (.pointer (some ⟨b8,0,none⟩)) hT104_4) ?_
 obtain ⟨r110,hr109,hz⟩:=Qb hz
 refine Qs (Zl (vs:=[.pointer (some ⟨b8,0,none⟩)]) (L:=[.box b8 cs51 136]) (R:=[.row (.slice none 0 0) 3 1,.row (.slice none 0 0) 3 1,.row (.slice none 0 0) 3 1,.row (.slice none 0 0) 65 3,.box b29 cs53 118,.row (.slice none 0 0) 3 1,.row (.slice none 0 0) 3 1,.row (.slice none 0 0) 3 1,.row v55 65 3,.box b3 (Zr.zc GFrame) 118]) (rv:=(fun M' u L' => ∃ k0,u = .int .i64 r110.1∧L'=[.box b8 k0 136]∧rep M' k0 r110.2)) q09 (Zu rfl) hS (hS.sel [0,1,2,3,4,5,6,7,8,9,10] (by decide) rfl) (fun hS=>qec hS hb51 hr109) ?_)
 rintro u109 M109 w108 L109 hx109 ⟨k0_109,rfl,hL109,f109_0⟩ hS
 replace hS:=hS _ hL109
 replace zb3:=Rep.mono hx109.1 zb3
 replace hb53:=Rep.mono hx109.1 hb53
 replace hE:=Qd hE hx109
 refine Qc (Qj (.int .i64 r110.1) rfl) ?_
 refine Qf (Qa ?_)
 refine Qv ?_
 refine Zw (fun k125 T' w' => ∃ M112 cs114 d115 cs116 d117 v119 y123,Mm.ext w.heap.size noX M109 M112∧St w noX M112 [.box b8 cs114 136,.row (.slice none 0 0) 3 1,.row (.slice none 0 0) 3 1,.row (.slice none 0 0) 3 1,.row (.slice none 0 0) 65 3,.box b29 cs116 118,.row (.slice none 0 0) 3 1,.row (.slice none 0 0) 3 1,.row v119 3 1,.row v55 65 3,.box b3 (Zr.zc GFrame) 118] w'∧rep M112 cs114 d115∧rep M112 cs116 d117∧sl cs116 (0+3) 1=[v55]∧sl cs116 (0+4) 1=[v119]∧sl cs116 (0+5) 1=[(.slice none 0 0)]∧sl cs116 (0+6) 1=[(.slice none 0 0)]∧T' 2 = .pointer (some ⟨b3,0,none⟩)∧T' 4 = .pointer (some ⟨b8,0,none⟩)∧T' 5 = .pointer (some ⟨b29,0,none⟩)∧T' 7 = .int .i64 y123∧qcx fu k125 d115 d117 y123=some r) fu ?_ ?_ ?_
 exact ⟨M109,k0_109,r110.2,cs53,d54,(.slice none 0 0),r110.1,(Qg _ _ _),hS,f109_0,hb53,hp56,hp57,hp58,hp59,hT104_2,hT104_4,hT104_5,rfl,hz⟩
 rintro T' w' ⟨_,_,_,_,_,_,_,_,_,_,_,_,_,_,_,_,_,_,_,hz⟩
 rw [qcx] at hz
 cases hz
 intro k125
 rintro T113 w111 ⟨M112,cs114,d115,cs116,d117,v119,y123,hx127,hS,hb114,hb116,hp118,hp120,hp121,hp122,hT113_2,hT113_4,hT113_5,hT113_7,hz⟩
 replace zb3:=Rep.mono hx127.1 zb3
 replace hE:=Qd hE hx127
 have hF126:=hx127
 rw [qcx] at hz
 obtain ⟨rec124,hrec124⟩ : ∃ f,f=qcx fu k125:=⟨_,rfl⟩
 rw [← hrec124] at hz
 refine Q0 (fun T' w' => ∃ M129,Mm.ext w.heap.size noX M112 M129∧St w noX M129 [.box b8 cs114 136,.row (.slice none 0 0) 3 1,.row (.slice none 0 0) 3 1,.row (.slice none 0 0) 3 1,.row (.slice none 0 0) 65 3,.box b29 cs116 118,.row (.slice none 0 0) 3 1,.row (.slice none 0 0) 3 1,.row v119 3 1,.row v55 65 3,.box b3 (Zr.zc GFrame) 118] w'∧T' 2 = .pointer (some ⟨b3,0,none⟩)∧T' 4 = .pointer (some ⟨b8,0,none⟩)∧T' 5 = .pointer (some ⟨b29,0,none⟩)∧T' 7 = .int .i64 y123∧qlk fu d115 d117 y123 rec124=some r) ?_ ?_
 have hF154:=Qg w.heap.size noX M112
 refine Q0 (fun T' w' => ∃ M156 c158,Mm.ext w.heap.size noX M112 M156∧St w noX M156 [.box b8 cs114 136,.row (.slice none 0 0) 3 1,.row (.slice none 0 0) 3 1,.row (.slice none 0 0) 3 1,.row (.slice none 0 0) 65 3,.box b29 cs116 118,.row (.slice none 0 0) 3 1,.row (.slice none 0 0) 3 1,.row v119 3 1,.row v55 65 3,.box b3 (Zr.zc GFrame) 118] w'∧T' 2 = .pointer (some ⟨b3,0,none⟩)∧T' 4 = .pointer (some ⟨b8,0,none⟩)∧T' 5 = .pointer (some ⟨b29,0,none⟩)∧T' 7 = .int .i64 y123∧T' 54 = .bool c158∧qgc fu d115 d117 y123 rec124 c158=some r) ?_ ?_
 have hF292:=Qg w.heap.size noX M112
 refine Qi <|Qc (Qe (.int .i64 y123) hT113_7) <|Qc (Yr rfl rfl) <|Qc (Qe (.bool (decide (y123>0))) rfl) ?_
 rcases ic hz with ⟨hc293,hz⟩ | ⟨hc293,hz⟩<;>rw [hc293]
 refine Qk rfl rfl (Qe (.pointer (some ⟨b8,0,none⟩)) hT113_4) <|Qk rfl rfl (Q6 rfl) <|Qk rfl rfl (Qp qov rfl) <|Qk rfl rfl (Qm (.bool d115.bad) Jl rfl (hS.bvB 0 rfl) (Kz (rr hb114))) <|Qk rfl rfl (Ye rfl) <|Qc (Zy (.bool (!d115.bad)) rfl rfl) ?_
 refine Qf (Qa ?_)
 exact ⟨M112,(!d115.bad),hF292,hS,hT113_2,hT113_4,hT113_5,hT113_7,rfl,hz⟩
 refine Q2 6 rfl ?_
 refine Qf (Qa ?_)
 exact ⟨M112,false,hF292,hS,hT113_2,hT113_4,hT113_5,hT113_7,rfl,hz⟩
 rintro T157 w155 ⟨M156,c158,hx159,hS,hT157_2,hT157_4,hT157_5,hT157_7,hT157_54,hz⟩
 replace zb3:=Rep.mono hx159.1 zb3
 replace hb114:=Rep.mono hx159.1 hb114
 replace hb116:=Rep.mono hx159.1 hb116
 replace hE:=Qd hE hx159
 replace hF154:=Qd hF154 hx159
 rw [qgc] at hz
 refine Qr hT157_54 (fun hc160 => ?_) (fun hc160 => ?_)
 replace hz:=Qn hz hc160
 refine Qt (Qa ?_)
 exact ⟨M156,hF154,hS,hT157_2,hT157_4,hT157_5,hT157_7,hz⟩
 replace hz:=Qo hz hc160
 refine Zq <|Qy <|Qy <|Zs ?_
 refine (Qa ?_)
 refine Qh <|Qh <|Qi <|Qc (Qe (.pointer (some ⟨b8,0,none⟩)) hT157_4) ?_
 obtain ⟨r163,hr162,hz⟩:=Qb hz
 refine Qs (Zl (vs:=[.pointer (some ⟨b8,0,none⟩)]) (L:=[.box b8 cs114 136]) (R:=[.row (.slice none 0 0) 3 1,.row (.slice none 0 0) 3 1,.row (.slice none 0 0) 3 1,.row (.slice none 0 0) 65 3,.box b29 cs116 118,.row (.slice none 0 0) 3 1,.row (.slice none 0 0) 3 1,.row v119 3 1,.row v55 65 3,.box b3 (Zr.zc GFrame) 118]) (rv:=(fun M' u L' => ∃ k0,u = .int .i64 r163.1∧L'=[.box b8 k0 136]∧rep M' k0 r163.2)) q09 (Zu rfl) hS (hS.sel [0,1,2,3,4,5,6,7,8,9,10] (by decide) rfl) (fun hS=>qec hS hb114 hr162) ?_)
 rintro u162 M162 w161 L162 hx162 ⟨k0_162,rfl,hL162,f162_0⟩ hS
 replace hS:=hS _ hL162
 replace zb3:=Rep.mono hx162.1 zb3
 replace hb116:=Rep.mono hx162.1 hb116
 replace hE:=Qd hE hx162
 refine Qc (Qj (.int .i64 r163.1) rfl) ?_
 refine Qf (Qa ?_)
 refine Qv ?_
 refine Zw (fun k179 T' w' => ∃ M165 cs167 d168 cs169 d170 v173 v175 y177,Mm.ext w.heap.size noX M162 M165∧St w noX M165 [.box b8 cs167 136,.row (.slice none 0 0) 3 1,.row (.slice none 0 0) 3 1,.row (.slice none 0 0) 3 1,.row (.slice none 0 0) 65 3,.box b29 cs169 118,.row v175 3 1,.row v173 3 1,.row v119 3 1,.row v55 65 3,.box b3 (Zr.zc GFrame) 118] w'∧rep M165 cs167 d168∧rep M165 cs169 d170∧sl cs169 (0+3) 1=[v55]∧sl cs169 (0+4) 1=[v119]∧sl cs169 (0+5) 1=[v173]∧sl cs169 (0+6) 1=[v175]∧T' 2 = .pointer (some ⟨b3,0,none⟩)∧T' 4 = .pointer (some ⟨b8,0,none⟩)∧T' 5 = .pointer (some ⟨b29,0,none⟩)∧T' 8 = .int .i64 y177∧qcm fu k179 d168 d170 y177=some r) fu ?_ ?_ ?_
 exact ⟨M162,k0_162,r163.2,cs116,d117,(.slice none 0 0),(.slice none 0 0),r163.1,(Qg _ _ _),hS,f162_0,hb116,hp118,hp120,hp121,hp122,hT157_2,hT157_4,hT157_5,rfl,hz⟩
 rintro T' w' ⟨_,_,_,_,_,_,_,_,_,_,_,_,_,_,_,_,_,_,_,_,hz⟩
 rw [qcm] at hz
 cases hz
 intro k179
 rintro T166 w164 ⟨M165,cs167,d168,cs169,d170,v173,v175,y177,hx181,hS,hb167,hb169,hp171,hp172,hp174,hp176,hT166_2,hT166_4,hT166_5,hT166_8,hz⟩
 replace zb3:=Rep.mono hx181.1 zb3
 replace hE:=Qd hE hx181
 have hF180:=hx181
 rw [qcm] at hz
 obtain ⟨rec178,hrec178⟩ : ∃ f,f=qcm fu k179:=⟨_,rfl⟩
 rw [← hrec178] at hz
 refine Q0 (fun T' w' => ∃ M183,Mm.ext w.heap.size noX M165 M183∧St w noX M183 [.box b8 cs167 136,.row (.slice none 0 0) 3 1,.row (.slice none 0 0) 3 1,.row (.slice none 0 0) 3 1,.row (.slice none 0 0) 65 3,.box b29 cs169 118,.row v175 3 1,.row v173 3 1,.row v119 3 1,.row v55 65 3,.box b3 (Zr.zc GFrame) 118] w'∧T' 2 = .pointer (some ⟨b3,0,none⟩)∧T' 4 = .pointer (some ⟨b8,0,none⟩)∧T' 5 = .pointer (some ⟨b29,0,none⟩)∧T' 8 = .int .i64 y177∧qll fu d168 d170 y177 rec178=some r) ?_ ?_
 have hF230:=Qg w.heap.size noX M165
 refine Q0 (fun T' w' => ∃ M232 c234,Mm.ext w.heap.size noX M165 M232∧St w noX M232 [.box b8 cs167 136,.row (.slice none 0 0) 3 1,.row (.slice none 0 0) 3 1,.row (.slice none 0 0) 3 1,.row (.slice none 0 0) 65 3,.box b29 cs169 118,.row v175 3 1,.row v173 3 1,.row v119 3 1,.row v55 65 3,.box b3 (Zr.zc GFrame) 118] w'∧T' 2 = .pointer (some ⟨b3,0,none⟩)∧T' 4 = .pointer (some ⟨b8,0,none⟩)∧T' 5 = .pointer (some ⟨b29,0,none⟩)∧T' 8 = .int .i64 y177∧T' 74 = .bool c234∧qgb fu d168 d170 y177 rec178 c234=some r) ?_ ?_
 have hF290:=Qg w.heap.size noX M165
 refine Qi <|Qc (Qe (.int .i64 y177) hT166_8) <|Qc (Yr rfl rfl) <|Qc (Qe (.bool (decide (y177>0))) rfl) ?_
 rcases ic hz with ⟨hc291,hz⟩ | ⟨hc291,hz⟩<;>rw [hc291]
 refine Qk rfl rfl (Qe (.pointer (some ⟨b8,0,none⟩)) hT166_4) <|Qk rfl rfl (Q6 rfl) <|Qk rfl rfl (Qp qov rfl) <|Qk rfl rfl (Qm (.bool d168.bad) Jl rfl (hS.bvB 0 rfl) (Kz (rr hb167))) <|Qk rfl rfl (Ye rfl) <|Qc (Zy (.bool (!d168.bad)) rfl rfl) ?_
 refine Qf (Qa ?_)
 exact ⟨M165,(!d168.bad),hF290,hS,hT166_2,hT166_4,hT166_5,hT166_8,rfl,hz⟩
 refine Q2 6 rfl ?_
 refine Qf (Qa ?_)
 exact ⟨M165,false,hF290,hS,hT166_2,hT166_4,hT166_5,hT166_8,rfl,hz⟩
 rintro T233 w231 ⟨M232,c234,hx235,hS,hT233_2,hT233_4,hT233_5,hT233_8,hT233_74,hz⟩
 replace zb3:=Rep.mono hx235.1 zb3
 replace hb167:=Rep.mono hx235.1 hb167
 replace hb169:=Rep.mono hx235.1 hb169
 replace hE:=Qd hE hx235
 replace hF230:=Qd hF230 hx235
 rw [qgb] at hz
 refine Qr hT233_74 (fun hc236 => ?_) (fun hc236 => ?_)
 replace hz:=Qn hz hc236
 refine Qt (Qa ?_)
 exact ⟨M232,hF230,hS,hT233_2,hT233_4,hT233_5,hT233_8,hz⟩
 replace hz:=Qo hz hc236
 refine Zq <|Qy <|Qy <|Zs ?_
 refine (Qa ?_)
 refine Q0 (fun T' w' => ∃ M238 cs240 d241,Mm.ext w.heap.size noX M232 M238∧St w noX M238 [.box b8 cs167 136,.row (.slice none 0 0) 3 1,.row (.slice none 0 0) 3 1,.row (.slice none 0 0) 3 1,.row (.slice none 0 0) 65 3,.box b29 cs169 118,.row v175 3 1,.row v173 3 1,.row v119 3 1,.row v55 65 3,.box b3 cs240 118] w'∧rep M238 cs240 d241∧T' 2 = .pointer (some ⟨b3,0,none⟩)∧T' 5 = .pointer (some ⟨b29,0,none⟩)∧qlm d170 d241=some r) ?_ ?_
 have hF255:=Qg w.heap.size noX M232
 refine Q0 (fun T' w' => ∃ M257 c259,Mm.ext w.heap.size noX M232 M257∧St w noX M257 [.box b8 cs167 136,.row (.slice none 0 0) 3 1,.row (.slice none 0 0) 3 1,.row (.slice none 0 0) 3 1,.row (.slice none 0 0) 65 3,.box b29 cs169 118,.row v175 3 1,.row v173 3 1,.row v119 3 1,.row v55 65 3,.box b3 (Zr.zc GFrame) 118] w'∧T' 2 = .pointer (some ⟨b3,0,none⟩)∧T' 5 = .pointer (some ⟨b29,0,none⟩)∧T' 106 = .bool c259∧qga d170 c259=some r) ?_ ?_
 have hF279:=Qg w.heap.size noX M232
 refine Qi <|Qc (Qe (.pointer (some ⟨b8,0,none⟩)) hT233_4) <|Qc (Q6 rfl) <|Qc (Qp qov rfl) <|Qc (Qm (.bool d168.bad) Jl rfl (hS.bvB 0 rfl) (Kz (rr hb167))) <|Qc (Qe (.bool d168.bad) rfl) ?_
 rcases ic hz with ⟨hc280,hz⟩ | ⟨hc280,hz⟩<;>rw [hc280]
 refine Q2 11 rfl ?_
 refine Qf (Qa ?_)
 exact ⟨M232,true,hF279,hS,hT233_2,hT233_5,rfl,hz⟩
 refine Qk rfl rfl (Qe (.pointer (some ⟨b8,0,none⟩)) hT233_4) <|Qk rfl rfl (Q6 rfl) <|Qk rfl rfl (Qp qou rfl) <|Qk rfl rfl (Qm (.string d168.s) ts9 rfl (hS.bvB 0 rfl) (Ky (rr hb167)).1) <|Qk rfl rfl (q99 rfl rfl) <|Q2 2 rfl ?_
 rcases ic hz with ⟨hc281,hz⟩ | ⟨hc281,hz⟩<;>rw [hc281]
 refine Q2 4 rfl ?_
 refine Qf (Qa ?_)
 exact ⟨M232,true,hF279,hS,hT233_2,hT233_5,rfl,hz⟩
 have ha282:=(rr hb169)
 have hp283:sl (sl cs169 (0) 7) 3 1=[v55]:=(Km (by decide)).trans hp171
 have hp284:sl (sl cs169 (0) 7) 4 1=[v119]:=(Km (by decide)).trans hp172
 have hp285:sl (sl cs169 (0) 7) 5 1=[v173]:=(Km (by decide)).trans hp174
 have hp286:sl (sl cs169 (0) 7) 6 1=[v175]:=(Km (by decide)).trans hp176
 refine Qk rfl rfl (Zf K1 hT233_5 (hS.bvB 5 rfl) (Rep.len ha282)) ?_
 obtain ⟨r289,hr288,hz⟩:=Qb hz
 replace hr288:=Option.some.inj hr288
 refine Kf rfl rfl (Z6 (vs:=[.agg (sl cs169 (0) 7).toArray]) (v := .int .i64 r289) q9p (Zu rfl) hS (hr288 ▸ (qxu hS.agree ha282)) ?_)
 intro w287 hS
 refine Qk rfl rfl (Yl rfl rfl) <|Qc (Zi (.bool (r289 != 0)) rfl rfl) ?_
 refine Qf (Qa ?_)
 exact ⟨M232,(r289 != 0),hF279,hS,hT233_2,hT233_5,rfl,hz⟩
 rintro T258 w256 ⟨M257,c259,hx260,hS,hT258_2,hT258_5,hT258_106,hz⟩
 replace zb3:=Rep.mono hx260.1 zb3
 replace hE:=Qd hE hx260
 replace hF255:=Qd hF255 hx260
 rw [qga] at hz
 refine Qr hT258_106 (fun hc261 => ?_) (fun hc261 => ?_)
 replace hz:=Qn hz hc261
 refine Qh <|Qi ?_
 obtain ⟨d263,hd262,hz⟩:=Qb hz
 obtain ⟨cs262,hf262,ha262⟩ : ∃ cs,qbj (([(0,1),(1,1),(2,1),(3,1),(4,1),(5,1),(6,1)]:List (Nat × Nat))[·]?) (Zr.zc GFrame) []=some cs∧rep M257 cs d263:=⟨_,Z2,Z3 (x:=({ kind:=Zr.zd,node:=Zr.zd,id:=Zr.zd,ops:=Zr.zd,deps:=Zr.zd,at_:=Zr.zd,vals:=Zr.zd }:GFrame)) (Zr.zr:rep M257 (Zr.zc GFrame) (Zr.zd:GFrame)) hd262⟩
 have hp264:sl cs262 3 1=[.slice none 0 0]:=(Yw hf262 (by rfl)).trans (by rfl)
 replace hS:=hS.nilRow 65 3
 have hp266:sl cs262 4 1=[.slice none 0 0]:=(Yw hf262 (by rfl)).trans (by rfl)
 replace hS:=hS.nilRow 3 1
 have hp268:sl cs262 5 1=[.slice none 0 0]:=(Yw hf262 (by rfl)).trans (by rfl)
 replace hS:=hS.nilRow 3 1
 have hp270:sl cs262 6 1=[.slice none 0 0]:=(Yw hf262 (by rfl)).trans (by rfl)
 replace hS:=hS.nilRow 3 1
 refine Qc (Zt [] qv5 Vb hf262) ?_
 obtain ⟨d274,hd273,hz⟩:=Qb hz
 refine Qs (Q8 14 7 hS rfl zb3 hT258_2 rfl ha262 rfl rfl (Lf (rr zb3) ha262) hd273 ?_)
 intro cs273 w272 hb273 ha273 hs273 hS
 have hp275:sl cs273 (0+3) 1=[(.slice none 0 0)]:=Kl hs273 hp264 (by decide)
 have hp276:sl cs273 (0+4) 1=[(.slice none 0 0)]:=Kl hs273 hp266 (by decide)
 have hp277:sl cs273 (0+5) 1=[(.slice none 0 0)]:=Kl hs273 hp268 (by decide)
 have hp278:sl cs273 (0+6) 1=[(.slice none 0 0)]:=Kl hs273 hp270 (by decide)
 refine Qc (Qj (.int .i64 1) rfl) ?_
 refine Qf (Qa ?_)
 cases hz
 exact Q4 (Qq (q45 (j:=14) rfl hT258_2 rfl (by rw [Rep.len hb273];exact K1) hS rfl (Zk (Ql (Ql (Ql (Ql (Ql (Ql (Ql (Ql (Ql (Ql (Ql (Ql (Ql (Ql (Ql hS))))))))))))))) hE ⟨_,rfl,hb273⟩)))
 replace hz:=Qo hz hc261
 refine Qt (Qa ?_)
 exact ⟨M257,(Zr.zc GFrame),(Zr.zd:GFrame),hF255,hS,zb3,hT258_2,hT258_5,hz⟩
 rintro T239 w237 ⟨M238,cs240,d241,hx242,hS,hb240,hT239_2,hT239_5,hz⟩
 replace hb169:=Rep.mono hx242.1 hb169
 replace hE:=Qd hE hx242
 rw [qlm] at hz
 refine Qh <|Qi ?_
 have ha243:=(rr hb169)
 have hp244:sl (sl cs169 (0) 7) 3 1=[v55]:=(Km (by decide)).trans hp171
 have hp245:sl (sl cs169 (0) 7) 4 1=[v119]:=(Km (by decide)).trans hp172
 have hp246:sl (sl cs169 (0) 7) 5 1=[v173]:=(Km (by decide)).trans hp174
 have hp247:sl (sl cs169 (0) 7) 6 1=[v175]:=(Km (by decide)).trans hp176
 refine Qc (Zf K1 hT239_5 (hS.bvB 5 rfl) (Rep.len ha243)) ?_
 obtain ⟨d250,hd249,hz⟩:=Qb hz
 refine Qs (Q8 10 7 hS rfl hb240 hT239_2 rfl ha243 rfl rfl (Lf (rr hb240) ha243) hd249 ?_)
 intro cs249 w248 hb249 ha249 hs249 hS
 have hp251:sl cs249 (0+3) 1=[v55]:=Kl hs249 hp244 (by decide)
 have hp252:sl cs249 (0+4) 1=[v119]:=Kl hs249 hp245 (by decide)
 have hp253:sl cs249 (0+5) 1=[v173]:=Kl hs249 hp246 (by decide)
 have hp254:sl cs249 (0+6) 1=[v175]:=Kl hs249 hp247 (by decide)
 refine Qc (Qj (.int .i64 0) rfl) ?_
 refine Qf (Qa ?_)
 cases hz
 exact Q4 (q45 (j:=10) rfl hT239_2 rfl (by rw [Rep.len hb249];exact K1) hS rfl (Zk (Ql (Ql (Ql (Ql (Ql (Ql (Ql (Ql (Ql (Ql (Ql hS))))))))))) hE ⟨_,rfl,hb249⟩))
 rintro T184 w182 ⟨M183,hx185,hS,hT184_2,hT184_4,hT184_5,hT184_8,hz⟩
 replace hb167:=Rep.mono hx185.1 hb167
 replace hb169:=Rep.mono hx185.1 hb169
 rw [qll] at hz
 refine Qh <|Qv <|Qh <|Yu [.box b29 cs169 118] [7] Ya hS fun w186 hS hG187 hR188=>wy 0 rfl (Qp V9 hT184_5) (fun _=>hR188) ?_
 obtain ⟨v189,ev189,hv189⟩:=(Vh (rr hb169))
 rw [Kd ev189 hp174] at hv189
 refine Y8 1 rfl (Qm v173 Z4 rfl (Yp 0 rfl) hp174) hR188 <|wy 2 rfl (Qe (.pointer (some ⟨b8,0,none⟩)) hT184_4) (fun _=>hR188) ?_
 obtain ⟨r192,hr191,hz⟩:=Qb hz
 refine w1 3 rfl (Zl (vs:=[.pointer (some ⟨b8,0,none⟩)]) (L:=[.box b8 cs167 136]) (R:=[.row (.slice none 0 0) 3 1,.row (.slice none 0 0) 3 1,.row (.slice none 0 0) 3 1,.row (.slice none 0 0) 65 3,.box b29 cs169 118,.row v175 3 1,.row v173 3 1,.row v119 3 1,.row v55 65 3,.box b3 (Zr.zc GFrame) 118]) (rv:=(fun M' u L' => ∃ k0,u = .int .i64 r192.1∧L'=[.box b8 k0 136]∧rep M' k0 r192.2)) q09 (Zu rfl) hS (hS.sel [0,1,2,3,4,5,6,7,8,9,10] (by decide) rfl) (fun hS=>qec hS hb167 hr191) ?_)
 rintro u191 M191 w190 L191 hx191 ⟨k0_191,rfl,hL191,f191_0⟩ hS
 replace hS:=hS _ hL191
 replace hG187:=Qd hG187 hx191
 refine Yq hS hG187 fun hR193 => ?_
 refine w1 4 rfl (Z0 (α := Int) (l:=([r192.1]:List Int)) [.int .i64 r192.1] qy0 (Ym rfl Vb) rfl rfl (by decide) (by decide) (by decide) hS (K3 (ri r192.1:rep M191 _ _) Jk) ?_)
 intro v195 M195 w194 hx195 hv195 hS
 replace hv189:=Qz (hx191.1.trans hx195.1) hv189
 replace hG187:=Qd hG187 hx195
 refine Yq hS hG187 fun hR196 => ?_
 obtain ⟨l199,hr198,hz⟩:=Qb hz
 obtain ⟨hy198,hs198⟩:=Z1 hr198
 refine w1 5 rfl (Y7 (α := Int) (j:=7) Ji hS rfl rfl rfl hv189 hv195 hy198 ?_)
 intro v198 M198 w197 hx198 hv198 hS
 rw [← hs198] at hv198
 clear hr198 hs198
 replace hb169:=Rep.mono (hx191.1.trans (hx195.1.trans hx198.1)) hb169
 replace f191_0:=Rep.mono (hx195.1.trans hx198.1) f191_0
 replace hG187:=Qd hG187 hx198
 refine Yq hS hG187 fun hR200=>wy 6 rfl (Qp V9 hT184_5) (fun _=>hR200) ?_
 obtain ⟨d203,hd202,hz⟩:=Qb hz
 refine w1 7 rfl (Q8 5 1 hS rfl hb169 rfl rfl (Q1 hv198) (Zc hv198) rfl (GFrame.u5 (rr hb169) (Lf (Vh (rr hb169)) (Q1 hv198))) hd202 ?_)
 intro cs202 w201 hb202 ha202 hs202 hS
 have hp204:=(ha202 (by omega)).trans hp171
 have hp205:=(ha202 (by omega)).trans hp172
 have hp206:=(ha202 (by omega)).trans hp176
 have hp207:=hs202
 refine ⟨nB,?_⟩
 refine wd (Qa ?_)
 refine Yu [.box b29 cs202 118] [7] Ya hS fun w208 hS hG209 hR210=>wy 0 rfl (Qp Ka hT184_5) (fun _=>hR210) ?_
 obtain ⟨v211,ev211,hv211⟩:=(Vi (rr hb202))
 rw [Kd ev211 hp206] at hv211
 refine Y8 1 rfl (Qm v175 Z4 rfl (Yp 0 rfl) hp206) hR210 <|wy 2 rfl (Qe (.pointer (some ⟨b8,0,none⟩)) hT184_4) (fun _=>hR210) ?_
 obtain ⟨r214,hr213,hz⟩:=Qb hz
 refine w1 3 rfl (Zl (vs:=[.pointer (some ⟨b8,0,none⟩)]) (L:=[.box b8 k0_191 136]) (R:=[.row (.slice none 0 0) 3 1,.row (.slice none 0 0) 3 1,.row (.slice none 0 0) 3 1,.row (.slice none 0 0) 65 3,.box b29 cs202 118,.row v175 3 1,.row v198 3 1,.row v119 3 1,.row v55 65 3,.box b3 (Zr.zc GFrame) 118]) (rv:=(fun M' u L' => ∃ k0,u = .int .i64 r214.1∧L'=[.box b8 k0 136]∧rep M' k0 r214.2)) cb79 (Zu rfl) hS (hS.sel [0,1,2,3,4,5,6,7,8,9,10] (by decide) rfl) (fun hS=>qq2 hS f191_0 hr213) ?_)
 rintro u213 M213 w212 L213 hx213 ⟨k0_213,rfl,hL213,f213_0⟩ hS
 replace hS:=hS _ hL213
 replace hG209:=Qd hG209 hx213
 refine Yq hS hG209 fun hR215 => ?_
 refine w1 4 rfl (Z0 (α := Int) (l:=([r214.1]:List Int)) [.int .i64 r214.1] qy0 (Ym rfl Vb) rfl rfl (by decide) (by decide) (by decide) hS (K3 (ri r214.1:rep M213 _ _) Jk) ?_)
 intro v217 M217 w216 hx217 hv217 hS
 replace hv211:=Qz (hx213.1.trans hx217.1) hv211
 replace hG209:=Qd hG209 hx217
 refine Yq hS hG209 fun hR218 => ?_
 obtain ⟨l221,hr220,hz⟩:=Qb hz
 obtain ⟨hy220,hs220⟩:=Z1 hr220
 refine w1 5 rfl (Y7 (α := Int) (j:=6) Ji hS rfl rfl rfl hv211 hv217 hy220 ?_)
 intro v220 M220 w219 hx220 hv220 hS
 rw [← hs220] at hv220
 clear hr220 hs220
 replace hb202:=Rep.mono (hx213.1.trans (hx217.1.trans hx220.1)) hb202
 replace f213_0:=Rep.mono (hx217.1.trans hx220.1) f213_0
 replace hF180:=Qd hF180 (hx185.trans (hx191.trans (hx195.trans (hx198.trans (hx213.trans (hx217.trans hx220))))))
 replace hG209:=Qd hG209 hx220
 refine Yq hS hG209 fun hR222=>wy 6 rfl (Qp Ka hT184_5) (fun _=>hR222) ?_
 obtain ⟨d225,hd224,hz⟩:=Qb hz
 refine w1 7 rfl (Q8 5 1 hS rfl hb202 rfl rfl (Q1 hv220) (Zc hv220) rfl (GFrame.u6 (rr hb202) (Lf (Vi (rr hb202)) (Q1 hv220))) hd224 ?_)
 intro cs224 w223 hb224 ha224 hs224 hS
 have hp226:=(ha224 (by omega)).trans hp204
 have hp227:=(ha224 (by omega)).trans hp205
 have hp228:=(ha224 (by omega)).trans hp207
 have hp229:=hs224
 refine ⟨nB,?_⟩
 refine wd (Za ?_)
 refine (Qa ?_)
 refine Qi <|Qc (Qe (.int .i64 y177) hT184_8) <|Qc (Kg rfl rfl) <|Qc (Qj (.int .i64 (IntKind.wrap .i64 (y177-1))) rfl) ?_
 refine Qf (Qa ?_)
 exact ⟨M220,k0_213,r214.2,cs224,d225,v198,v220,(IntKind.wrap .i64 (y177-1)),hF180,hS,f213_0,hb224,hp226,hp227,hp228,hp229,hT184_2,hT184_4,hT184_5,rfl,(by rw [← hrec178];exact hz)⟩
 rintro T130 w128 ⟨M129,hx131,hS,hT130_2,hT130_4,hT130_5,hT130_7,hz⟩
 replace hb114:=Rep.mono hx131.1 hb114
 replace hb116:=Rep.mono hx131.1 hb116
 rw [qlk] at hz
 refine Qh <|Qv <|Yu [.box b29 cs116 118] [7] Ya hS fun w132 hS hG133 hR134=>wy 0 rfl (Qp Y4 hT130_5) (fun _=>hR134) ?_
 obtain ⟨v135,ev135,hv135⟩:=(Yi (rr hb116))
 rw [Kd ev135 hp120] at hv135
 refine Y8 1 rfl (Qm v119 Z4 rfl (Yp 0 rfl) hp120) hR134 <|wy 2 rfl (Qe (.pointer (some ⟨b8,0,none⟩)) hT130_4) (fun _=>hR134) ?_
 obtain ⟨r138,hr137,hz⟩:=Qb hz
 refine w1 3 rfl (Zl (vs:=[.pointer (some ⟨b8,0,none⟩)]) (L:=[.box b8 cs114 136]) (R:=[.row (.slice none 0 0) 3 1,.row (.slice none 0 0) 3 1,.row (.slice none 0 0) 3 1,.row (.slice none 0 0) 65 3,.box b29 cs116 118,.row (.slice none 0 0) 3 1,.row (.slice none 0 0) 3 1,.row v119 3 1,.row v55 65 3,.box b3 (Zr.zc GFrame) 118]) (rv:=(fun M' u L' => ∃ k0,u = .int .i64 r138.1∧L'=[.box b8 k0 136]∧rep M' k0 r138.2)) q09 (Zu rfl) hS (hS.sel [0,1,2,3,4,5,6,7,8,9,10] (by decide) rfl) (fun hS=>qec hS hb114 hr137) ?_)
 rintro u137 M137 w136 L137 hx137 ⟨k0_137,rfl,hL137,f137_0⟩ hS
 replace hS:=hS _ hL137
 replace hG133:=Qd hG133 hx137
 refine Yq hS hG133 fun hR139 => ?_
 refine w1 4 rfl (Z0 (α := Int) (l:=([r138.1]:List Int)) [.int .i64 r138.1] qy0 (Ym rfl Vb) rfl rfl (by decide) (by decide) (by decide) hS (K3 (ri r138.1:rep M137 _ _) Jk) ?_)
 intro v141 M141 w140 hx141 hv141 hS
 replace hv135:=Qz (hx137.1.trans hx141.1) hv135
 replace hG133:=Qd hG133 hx141
 refine Yq hS hG133 fun hR142 => ?_
 obtain ⟨l145,hr144,hz⟩:=Qb hz
 obtain ⟨hy144,hs144⟩:=Z1 hr144
 refine w1 5 rfl (Y7 (α := Int) (j:=8) Ji hS rfl rfl rfl hv135 hv141 hy144 ?_)
 intro v144 M144 w143 hx144 hv144 hS
 rw [← hs144] at hv144
 clear hr144 hs144
 replace hb116:=Rep.mono (hx137.1.trans (hx141.1.trans hx144.1)) hb116
 replace f137_0:=Rep.mono (hx141.1.trans hx144.1) f137_0
 replace hF126:=Qd hF126 (hx131.trans (hx137.trans (hx141.trans hx144)))
 replace hG133:=Qd hG133 hx144
 refine Yq hS hG133 fun hR146=>wy 6 rfl (Qp Y4 hT130_5) (fun _=>hR146) ?_
 obtain ⟨d149,hd148,hz⟩:=Qb hz
 refine w1 7 rfl (Q8 5 1 hS rfl hb116 rfl rfl (Q1 hv144) (Zc hv144) rfl (GFrame.u4 (rr hb116) (Lf (Yi (rr hb116)) (Q1 hv144))) hd148 ?_)
 intro cs148 w147 hb148 ha148 hs148 hS
 have hp150:=(ha148 (by omega)).trans hp118
 have hp151:=(ha148 (by omega)).trans hp121
 have hp152:=(ha148 (by omega)).trans hp122
 have hp153:=hs148
 refine ⟨nB,?_⟩
 refine wd (Za ?_)
 refine (Qa ?_)
 refine Qi <|Qc (Qe (.int .i64 y123) hT130_7) <|Qc (Kg rfl rfl) <|Qc (Qj (.int .i64 (IntKind.wrap .i64 (y123-1))) rfl) ?_
 refine Qf (Qa ?_)
 exact ⟨M144,k0_137,r138.2,cs148,d149,v144,(IntKind.wrap .i64 (y123-1)),hF126,hS,f137_0,hb148,hp150,hp153,hp151,hp152,hT130_2,hT130_4,hT130_5,rfl,(by rw [← hrec124];exact hz)⟩
 rintro T67 w65 ⟨M66,hx68,hS,hT67_2,hT67_4,hT67_5,hT67_6,hz⟩
 replace hb51:=Rep.mono hx68.1 hb51
 replace hb53:=Rep.mono hx68.1 hb53
 rw [qlj] at hz
 refine Qh <|Qv <|Yu [.box b29 cs53 118] [12] Ya hS fun w69 hS hG70 hR71=>wy 0 rfl (Qp Vz hT67_5) (fun _=>hR71) ?_
 obtain ⟨v72,ev72,hv72⟩:=(Va (rr hb53))
 rw [Kd ev72 hp56] at hv72
 refine Y8 1 rfl (Qm v55 Vp rfl (Yp 0 rfl) hp56) hR71 <|wy 2 rfl (Qe (.pointer (some ⟨b8,0,none⟩)) hT67_4) (fun _=>hR71) <|wy 4 rfl (Qe (.pointer (some ⟨b8,0,none⟩)) hT67_4) (fun _=>hR71) <|wy 6 rfl (Qe (.pointer (some ⟨b8,0,none⟩)) hT67_4) (fun _=>hR71) ?_
 obtain ⟨r75,hr74,hz⟩:=Qb hz
 refine w1 3 rfl (Zl (vs:=[.pointer (some ⟨b8,0,none⟩)]) (L:=[.box b8 cs51 136]) (R:=[.row (.slice none 0 0) 3 1,.row (.slice none 0 0) 3 1,.row (.slice none 0 0) 3 1,.row (.slice none 0 0) 65 3,.box b29 cs53 118,.row (.slice none 0 0) 3 1,.row (.slice none 0 0) 3 1,.row (.slice none 0 0) 3 1,.row v55 65 3,.box b3 (Zr.zc GFrame) 118]) (rv:=(fun M' u L' => ∃ k0,u = .int .i64 r75.1∧L'=[.box b8 k0 136]∧rep M' k0 r75.2)) q09 (Zu rfl) hS (hS.sel [0,1,2,3,4,5,6,7,8,9,10] (by decide) rfl) (fun hS=>qec hS hb51 hr74) ?_)
 rintro u74 M74 w73 L74 hx74 ⟨k0_74,rfl,hL74,f74_0⟩ hS
 replace hS:=hS _ hL74
 replace hG70:=Qd hG70 hx74
 refine Yq hS hG70 fun hR76 => ?_
 obtain ⟨r79,hr78,hz⟩:=Qb hz
 refine w1 5 rfl (Zl (vs:=[.pointer (some ⟨b8,0,none⟩)]) (L:=[.box b8 k0_74 136]) (R:=[.row (.slice none 0 0) 3 1,.row (.slice none 0 0) 3 1,.row (.slice none 0 0) 3 1,.row (.slice none 0 0) 65 3,.box b29 cs53 118,.row (.slice none 0 0) 3 1,.row (.slice none 0 0) 3 1,.row (.slice none 0 0) 3 1,.row v55 65 3,.box b3 (Zr.zc GFrame) 118]) (rv:=(fun M' u L' => ∃ k0,u = .int .i64 r79.1∧L'=[.box b8 k0 136]∧rep M' k0 r79.2)) q09 (Zu rfl) hS (hS.sel [0,1,2,3,4,5,6,7,8,9,10] (by decide) rfl) (fun hS=>qec hS f74_0 hr78) ?_)
 rintro u78 M78 w77 L78 hx78 ⟨k0_78,rfl,hL78,f78_0⟩ hS
 replace hS:=hS _ hL78
 replace hG70:=Qd hG70 hx78
 refine Yq hS hG70 fun hR80 => ?_
 obtain ⟨r83,hr82,hz⟩:=Qb hz
 refine w1 7 rfl (Zl (vs:=[.pointer (some ⟨b8,0,none⟩)]) (L:=[.box b8 k0_78 136]) (R:=[.row (.slice none 0 0) 3 1,.row (.slice none 0 0) 3 1,.row (.slice none 0 0) 3 1,.row (.slice none 0 0) 65 3,.box b29 cs53 118,.row (.slice none 0 0) 3 1,.row (.slice none 0 0) 3 1,.row (.slice none 0 0) 3 1,.row v55 65 3,.box b3 (Zr.zc GFrame) 118]) (rv:=(fun M' u L' => ∃ k0,u = .int .i64 r83.1∧L'=[.box b8 k0 136]∧rep M' k0 r83.2)) cb79 (Zu rfl) hS (hS.sel [0,1,2,3,4,5,6,7,8,9,10] (by decide) rfl) (fun hS=>qq2 hS f78_0 hr82) ?_)
 rintro u82 M82 w81 L82 hx82 ⟨k0_82,rfl,hL82,f82_0⟩ hS
 replace hS:=hS _ hL82
 replace hG70:=Qd hG70 hx82
 refine Yq hS hG70 fun hR84 => ?_
 have k85_0:=GOp.w0 (Zr.zr:rep M82 (Zr.zc GOp) (Zr.zd:GOp)) (ri r75.1:rep M82 _ _)
 have k85_1:=GOp.w1 k85_0 (ri r79.1:rep M82 _ _)
 have k85_2:=GOp.w2 k85_1 (ri r83.1:rep M82 _ _)
 obtain ⟨d86,hd85,hz⟩:=Qb hz
 obtain ⟨cs85,hf85,ha85⟩ : ∃ cs,qbj (([(0,1),(1,1),(2,1)]:List (Nat × Nat))[·]?) (Zr.zc GOp) [(0,.int .i64 r75.1),(1,.int .i64 r79.1),(2,.int .i64 r83.1)]=some cs∧rep M82 cs d86:=⟨_,(Q9 (Zr.zr:rep M82 (Zr.zc GOp) (Zr.zd:GOp)) rfl rfl (Rep.len (ri r75.1:rep M82 _ _)) (by decide) (Q9 k85_0 rfl rfl (Rep.len (ri r79.1:rep M82 _ _)) (by decide) (Q9 k85_1 rfl rfl (Rep.len (ri r83.1:rep M82 _ _)) (by decide) Z2))),Z3 (x:=({ kind:=r75.1,key:=r79.1,n:=r83.1 }:GOp)) k85_2 hd85⟩
 refine wy 8 rfl (Zt [(0,.int .i64 r75.1),(1,.int .i64 r79.1),(2,.int .i64 r83.1)] tb65 (Ym rfl (Ym rfl (Ym rfl Vb))) hf85) (fun _=>hR84) ?_
 refine w1 9 rfl (Z0 (α := GOp) (l:=([d86]:List GOp)) [.agg cs85.toArray] tl27 (Ym rfl Vb) rfl rfl (by decide) (by decide) (by decide) hS (K3 ha85 Jk) ?_)
 intro v88 M88 w87 hx88 hv88 hS
 replace hv72:=Qz (hx74.1.trans (hx78.1.trans (hx82.1.trans hx88.1))) hv72
 replace hG70:=Qd hG70 hx88
 refine Yq hS hG70 fun hR89 => ?_
 obtain ⟨l92,hr91,hz⟩:=Qb hz
 obtain ⟨hy91,hs91⟩:=Z1 hr91
 refine w1 10 rfl (Y7 (α := GOp) (j:=9) q9e hS rfl rfl rfl hv72 hv88 hy91 ?_)
 intro v91 M91 w90 hx91 hv91 hS
 rw [← hs91] at hv91
 clear hr91 hs91
 replace hb53:=Rep.mono (hx74.1.trans (hx78.1.trans (hx82.1.trans (hx88.1.trans hx91.1)))) hb53
 replace f82_0:=Rep.mono (hx88.1.trans hx91.1) f82_0
 replace hF63:=Qd hF63 (hx68.trans (hx74.trans (hx78.trans (hx82.trans (hx88.trans hx91)))))
 replace hG70:=Qd hG70 hx91
 refine Yq hS hG70 fun hR93=>wy 11 rfl (Qp Vz hT67_5) (fun _=>hR93) ?_
 obtain ⟨d96,hd95,hz⟩:=Qb hz
 refine w1 12 rfl (Q8 5 1 hS rfl hb53 rfl rfl (Q1 hv91) (Zc hv91) rfl (GFrame.u3 (rr hb53) (Lf (Va (rr hb53)) (Q1 hv91))) hd95 ?_)
 intro cs95 w94 hb95 ha95 hs95 hS
 have hp97:=(ha95 (by omega)).trans hp57
 have hp98:=(ha95 (by omega)).trans hp58
 have hp99:=(ha95 (by omega)).trans hp59
 have hp100:=hs95
 refine ⟨nB,?_⟩
 refine wd (Za ?_)
 refine (Qa ?_)
 refine Qi <|Qc (Qe (.int .i64 y60) hT67_6) <|Qc (Kg rfl rfl) <|Qc (Qj (.int .i64 (IntKind.wrap .i64 (y60-1))) rfl) ?_
 refine Qf (Qa ?_)
 exact ⟨M91,k0_82,r83.2,cs95,d96,v91,(IntKind.wrap .i64 (y60-1)),hF63,hS,f82_0,hb95,hp100,hp97,hp98,hp99,hT67_2,hT67_4,hT67_5,rfl,(by rw [← hrec61];exact hz)⟩
end Go.Proofs.Yteilffoclpgijaa
namespace Go.Proofs.Yteilffoclpgijaa
set_option maxHeartbeats 4000000
set_option maxRecDepth 100000
open Go.RowKit
open Rep (rep)
set_option linter.unusedVariables false
abbrev Yn := @Try.underlying72
abbrev Q7 := @q0g
def qb1 (fu:Nat) (x1:Int) (x2:List ByteArray):Nat→GNode→GNode→Int→Option (GNode × Int)
 | 0,_,_,_=>none
 | n+1,d20,d22,y23 =>
 (bif decide (y23<(x2.length:Int)) then
 (idx x2 y23).bind fun x30 =>
 (qmm fu x30).bind fun r33 =>
 (some r33.1).bind fun d38 =>
 (bif r33.2 != 0 then
 (some ({ entries:=Zr.zd,order:=Zr.zd,values:=Zr.zd }:GNode)).bind fun d41 =>
 (some d41).bind fun d44 =>
 some (d44,r33.2)
 else
 (qg4 fu d20 x1 d38).bind fun r49 =>
 (some r49.1).bind fun d52 =>
 (bif r49.2.2 != 0 then
 (some ({ entries:=Zr.zd,order:=Zr.zd,values:=Zr.zd }:GNode)).bind fun d55 =>
 (some d55).bind fun d58 =>
 some (d58,r49.2.2)
 else
 (qb1 fu x1 x2 n) d52 d22 (IntKind.wrap .i64 (y23+1))))
 else
 (some d20).bind fun d62 =>
 some (d62,0))
def qes (fu:Nat) (x1:Int) (x2:List ByteArray):Option (GNode × Int) :=
 (qml fu x1).bind fun r9 =>
 (bif !r9 then
 (some (Zr.zd:GNode)).bind fun d14 =>
 some (d14,2)
 else
 qb1 fu x1 x2 fu (Zr.zd:GNode) (Zr.zd:GNode) 0)
theorem qr9 {M:Mm} {w:World} {vx2:Value} {x1:Int} {x2:List ByteArray} {fu:Nat} {r:GNode × Int} (hA:Agree M w) (hvx2:repL M vx2 x2) (hz:qes fu x1 x2=some r) :
    Calls Try.prog 74 #[.int .i64 x1,vx2] w (Gives M w (fun M' u => ∃ c0,u = .tuple #[.agg c0.toArray,.int .i64 r.2]∧rep M' c0 r.1)):=by
 refine Zh Try.func74 rfl 44 rfl rfl (by kernel_rfl) fun T hT => ?_
 have hT_0:T 0 = .int .i64 x1:=hT 0
 have hT_1:T 1=vx2:=hT 1
 clear hT
 have hE:=Qg w.heap.size noX M
 have hS:St w noX M [] w:=Zx hA
 rw [qes] at hz
 refine Qh <|Qi ?_
 refine Qs (Zg qxo hS ?_)
 intro b4 w3 hb4 hS
 have zb4:rep M (Zr.zc GNode) (Zr.zd:GNode):=Zr.zr
 refine Qc (Qj (.int .i64 0) rfl) ?_
 refine Qf (Qa ?_)
 refine Qh <|Qi ?_
 refine Qs (Zg qxo hS ?_)
 intro b6 w5 hb6 hS
 have zb6:rep M (Zr.zc GNode) (Zr.zd:GNode):=Zr.zr
 refine Qf (Qa ?_)
 refine Qh <|Qh <|Qi <|Qc (Qe (.int .i64 x1) hT_0) ?_
 obtain ⟨r9,hr8,hz⟩:=Qb hz
 refine Qs (Z6 (vs:=[.int .i64 x1]) (v := .bool r9) cb87 (Zu rfl) hS (qtx hS.agree hr8) ?_)
 intro w7 hS
 refine Qc (Ye rfl) ?_
 refine Qf (Qa ?_)
 refine Qr rfl (fun hc10 => ?_) (fun hc10 => ?_)
 replace hz:=Qn hz hc10
 refine Qh <|Qi ?_
 have ha11:=(rr zb6)
 refine Qc (Zf Vk rfl (hS.bvB 0 rfl) (Rep.len ha11)) ?_
 obtain ⟨d14,hd13,hz⟩:=Qb hz
 refine Qs (Q8 1 201 hS rfl zb4 rfl rfl ha11 rfl rfl (Lf (rr zb4) ha11) hd13 ?_)
 intro cs13 w12 hb13 ha13 hs13 hS
 refine Qc (Qj (.int .i64 2) rfl) ?_
 refine Qf (Qa ?_)
 cases hz
 exact Q4 (Qq (q45 (j:=1) rfl rfl rfl (by rw [Rep.len hb13];exact Vk) hS rfl (Zk (Ql (Ql hS)) hE ⟨_,rfl,hb13⟩)))
 replace hz:=Qo hz hc10
 refine Qt (Qa ?_)
 refine Qh <|Qh <|Qi <|Qc (Qe (vx2) hT_1) ?_
 obtain ⟨a15,c15,hv15,_⟩:=Q3 hvx2
 refine Qc (Zj Yn (Vv hv15 rfl)) <|Qc (Qe (.int .i64 0) rfl) ?_
 refine Qf (Qa ?_)
 refine Qv ?_
 refine Zw (fun k25 T' w' => ∃ M17 cs19 d20 cs21 d22 y23,Mm.ext w.heap.size noX M M17∧St w noX M17 [.box b6 cs19 34,.box b4 cs21 34] w'∧rep M17 cs19 d20∧rep M17 cs21 d22∧T' 0 = .int .i64 x1∧T' 4 = .pointer (some ⟨b4,0,none⟩)∧T' 6 = .pointer (some ⟨b6,0,none⟩)∧T' 15=vx2∧T' 16 = .int .i64 (x2.length:Int)∧T' 17 = .int .i64 y23∧qb1 fu x1 x2 k25 d20 d22 y23=some r) fu ?_ ?_ ?_
 exact ⟨M,(Zr.zc GNode),(Zr.zd:GNode),(Zr.zc GNode),(Zr.zd:GNode),(0:Int),(Qg _ _ _),hS,zb6,zb4,hT_0,rfl,rfl,rfl,rfl,rfl,hz⟩
 rintro T' w' ⟨_,_,_,_,_,_,_,_,_,_,_,_,_,_,_,_,hz⟩
 rw [qb1] at hz
 cases hz
 intro k25
 rintro T18 w16 ⟨M17,cs19,d20,cs21,d22,y23,hx27,hS,hb19,hb21,hT18_0,hT18_4,hT18_6,hT18_15,hT18_16,hT18_17,hz⟩
 replace hvx2:=Qz hx27.1 hvx2
 replace hE:=Qd hE hx27
 have hF26:=hx27
 rw [qb1] at hz
 obtain ⟨rec24,hrec24⟩ : ∃ f,f=qb1 fu x1 x2 k25:=⟨_,rfl⟩
 rw [← hrec24] at hz
 refine Qh <|Qi <|Qc (Zv hT18_17 hT18_16) ?_
 refine Qf (Qa ?_)
 refine Qh ?_
 refine Qr rfl (fun hc28 => ?_) (fun hc28 => ?_)
 replace hz:=Qn hz hc28
 refine Qt (Qa ?_)
 refine Qh <|Qv <|Qh <|Qi ?_
 obtain ⟨x30,hx29,hz⟩:=Qb hz
 obtain ⟨b29,o29,c29,p29,hv29,hi29,hj29,hM29,hr29⟩:=Yf hvx2 hx29
 replace hr29:rep _ (sl p29 (o29+Int.toNat y23*1) 1) x30:=hr29
 refine Qc (Ys il72 hT18_15 hv29 hT18_17 hi29 hj29) <|Qc (Qm (.string x30) ts9 rfl (hS.bvM hM29) hr29.1) <|Qc (Qj (.string x30) rfl) ?_
 refine Qf (Qa ?_)
 refine Qh <|Qi <|Qc (Qe (.string x30) rfl) ?_
 obtain ⟨r33,hr32,hz⟩:=Qb hz
 refine Qs (Y0 (vs:=[.string x30]) (rv:=(fun M' u => ∃ c0,u = .tuple #[.agg c0.toArray,.int .i64 r33.2]∧rep M' c0 r33.1)) cb67 (Zu rfl) hS (qtz hS.agree hr32) ?_)
 intro u32 M32 w31 hx32 hu32 hS
 obtain ⟨c32_0,hq32,f32_0⟩:=hu32
 subst hq32
 replace hb19:=Rep.mono hx32.1 hb19
 replace hb21:=Rep.mono hx32.1 hb21
 replace hE:=Qd hE hx32
 replace hF26:=Qd hF26 hx32
 refine Qc (Qe (.tuple #[.agg c32_0.toArray,.int .i64 r33.2]) rfl) <|Qc (Q7 (v := .agg c32_0.toArray) rfl rfl) <|Qc (Q7 (v := .int .i64 r33.2) rfl rfl) ?_
 refine Qs (Zg qy2 hS ?_)
 intro b35 w34 hb35 hS
 have zb35:rep M32 (Zr.zc GFrame) (Zr.zd:GFrame):=Zr.zr
 obtain ⟨d38,hd37,hz⟩:=Qb hz
 refine Qs (Q8 0 7 hS rfl zb35 rfl rfl f32_0 rfl rfl (Lf (rr zb35) f32_0) hd37 ?_)
 intro cs37 w36 hb37 ha37 hs37 hS
 refine Qc (Qj (.int .i64 r33.2) rfl) ?_
 refine Qf (Qa ?_)
 refine Qh <|Qh <|Qi <|Qc (Qe (.int .i64 r33.2) rfl) <|Qc (Yl rfl rfl) ?_
 refine Qf (Qa ?_)
 refine Qr rfl (fun hc39 => ?_) (fun hc39 => ?_)
 replace hz:=Qn hz hc39
 refine Qh <|Qi ?_
 obtain ⟨d41,hd40,hz⟩:=Qb hz
 obtain ⟨cs40,hf40,ha40⟩ : ∃ cs,qbj (([(0,192),(192,1),(193,8)]:List (Nat × Nat))[·]?) (Zr.zc GNode) []=some cs∧rep M32 cs d41:=⟨_,Z2,Z3 (x:=({ entries:=Zr.zd,order:=Zr.zd,values:=Zr.zd }:GNode)) (Zr.zr:rep M32 (Zr.zc GNode) (Zr.zd:GNode)) hd40⟩
 refine Qc (Zt [] q8b Vb hf40) <|Qc (Qe (.int .i64 r33.2) rfl) ?_
 obtain ⟨d44,hd43,hz⟩:=Qb hz
 refine Qs (Q8 2 201 hS rfl hb21 hT18_4 rfl ha40 rfl rfl (Lf (rr hb21) ha40) hd43 ?_)
 intro cs43 w42 hb43 ha43 hs43 hS
 refine Qc (Qj (.int .i64 r33.2) rfl) ?_
 refine Qf (Qa ?_)
 cases hz
 exact Q4 (Qq (Zb (Qq (Qq (Zb (Qq (q45 (j:=2) rfl hT18_4 rfl (by rw [Rep.len hb43];exact Vk) hS rfl (Zk (Ql (Ql (Ql hS))) hE ⟨_,rfl,hb43⟩))))))))
 replace hz:=Qo hz hc39
 refine Qt (Qa ?_)
 refine Qh <|Qi ?_
 have ha45:=(rr hb19)
 refine Qc (Zf Vk hT18_6 (hS.bvB 1 rfl) (Rep.len ha45)) <|Qc (Qe (.int .i64 x1) hT18_0) ?_
 have ha46:=(rr hb37)
 refine Qc (Zf K1 rfl (hS.bvB 0 rfl) (Rep.len ha46)) ?_
 obtain ⟨r49,hr48,hz⟩:=Qb hz
 refine Qs (Y0 (vs:=[.agg (sl cs19 (0) 201).toArray,.int .i64 x1,.agg (sl cs37 (0) 7).toArray]) (rv:=(fun M' u => ∃ c0 v1,u = .tuple #[.agg c0.toArray,v1,.int .i64 r49.2.2]∧rep M' c0 r49.1∧repL M' v1 r49.2.1)) zbb (Jj rfl rfl rfl) hS (qkv hS.agree ha45 ha46 hr48) ?_)
 intro u48 M48 w47 hx48 hu48 hS
 obtain ⟨c48_0,v48_1,hq48,f48_0,f48_1⟩:=hu48
 subst hq48
 replace hb19:=Rep.mono hx48.1 hb19
 replace hb21:=Rep.mono hx48.1 hb21
 replace hE:=Qd hE hx48
 replace hF26:=Qd hF26 hx48
 refine Qc (Qe (.tuple #[.agg c48_0.toArray,v48_1,.int .i64 r49.2.2]) rfl) <|Qc (Q7 (v := .agg c48_0.toArray) rfl rfl) <|Qc (Q7 (v:=v48_1) rfl rfl) <|Qc (Q7 (v := .int .i64 r49.2.2) rfl rfl) ?_
 obtain ⟨d52,hd51,hz⟩:=Qb hz
 refine Qs (Q8 1 201 hS rfl hb19 hT18_6 rfl f48_0 rfl rfl (Lf (rr hb19) f48_0) hd51 ?_)
 intro cs51 w50 hb51 ha51 hs51 hS
 refine Qc (Qj (.int .i64 r49.2.2) rfl) ?_
 refine Qf (Qa ?_)
 refine Qh <|Qi <|Qc (Qe (.int .i64 r49.2.2) rfl) <|Qc (Yl rfl rfl) ?_
 refine Qf (Qa ?_)
 refine Qr rfl (fun hc53 => ?_) (fun hc53 => ?_)
 replace hz:=Qn hz hc53
 refine Qh <|Qi ?_
 obtain ⟨d55,hd54,hz⟩:=Qb hz
 obtain ⟨cs54,hf54,ha54⟩ : ∃ cs,qbj (([(0,192),(192,1),(193,8)]:List (Nat × Nat))[·]?) (Zr.zc GNode) []=some cs∧rep M48 cs d55:=⟨_,Z2,Z3 (x:=({ entries:=Zr.zd,order:=Zr.zd,values:=Zr.zd }:GNode)) (Zr.zr:rep M48 (Zr.zc GNode) (Zr.zd:GNode)) hd54⟩
 refine Qc (Zt [] q8b Vb hf54) <|Qc (Qe (.int .i64 r49.2.2) rfl) ?_
 obtain ⟨d58,hd57,hz⟩:=Qb hz
 refine Qs (Q8 2 201 hS rfl hb21 hT18_4 rfl ha54 rfl rfl (Lf (rr hb21) ha54) hd57 ?_)
 intro cs57 w56 hb57 ha57 hs57 hS
 refine Qc (Qj (.int .i64 r49.2.2) rfl) ?_
 refine Qf (Qa ?_)
 cases hz
 exact Q4 (Zb (Qq (Qq (Zb (Qq (q45 (j:=2) rfl hT18_4 rfl (by rw [Rep.len hb57];exact Vk) hS rfl (Zk (Ql (Ql (Ql hS))) hE ⟨_,rfl,hb57⟩)))))))
 replace hz:=Qo hz hc53
 refine Qt (Za ?_)
 refine (Qa ?_)
 refine Qi <|Qc (Zz hT18_17 rfl) <|Qc (Qe (.int .i64 (IntKind.wrap .i64 (y23+1))) rfl) ?_
 refine Qf (Qa ?_)
 exact ⟨M48,cs51,d52,cs21,d22,(IntKind.wrap .i64 (y23+1)),hF26,(Y2 hS hb35),hb51,hb21,hT18_0,hT18_4,hT18_6,hT18_15,hT18_16,rfl,(by rw [← hrec24];exact hz)⟩
 replace hz:=Qo hz hc28
 refine Zq <|Qy <|Qy <|Zs ?_
 refine (Qa ?_)
 refine Qh <|Qi ?_
 have ha59:=(rr hb19)
 refine Qc (Zf Vk hT18_6 (hS.bvB 0 rfl) (Rep.len ha59)) ?_
 obtain ⟨d62,hd61,hz⟩:=Qb hz
 refine Qs (Q8 1 201 hS rfl hb21 hT18_4 rfl ha59 rfl rfl (Lf (rr hb21) ha59) hd61 ?_)
 intro cs61 w60 hb61 ha61 hs61 hS
 refine Qc (Qj (.int .i64 0) rfl) ?_
 refine Qf (Qa ?_)
 cases hz
 exact Q4 (q45 (j:=1) rfl hT18_4 rfl (by rw [Rep.len hb61];exact Vk) hS rfl (Zk (Ql (Ql hS)) hE ⟨_,rfl,hb61⟩))
end Go.Proofs.Yteilffoclpgijaa
namespace Go.Proofs.Yteilffoclpgijaa
set_option maxHeartbeats 4000000
set_option maxRecDepth 100000
open Go.RowKit
open Rep (rep)
set_option linter.unusedVariables false
def qln (y7:Int) (rec8:Int→Option Bool):Option Bool :=
 rec8 (IntKind.wrap .i64 (y7+1))
def qi1 (y22:Int) (rec23:Int→Int→Option Bool) (y31:Int):Option Bool :=
 rec23 y31 (IntKind.wrap .i64 (y22+1))
def qi2 (y7:Int) (rec8:Int→Option Bool) (c42:Bool):Option Bool :=
 (bif c42 then
 some false
 else
 qln y7 rec8)
def qbs (x1:GCase) (y7:Int) (rec8:Int→Option Bool):Nat→Int→Int→Option Bool
 | 0,_,_=>none
 | n+1,y21,y22 =>
 (bif decide (y22<3) then
 (inR (IntKind.wrap .i64 ((IntKind.wrap .i64 (y7*3))+y22)) 6).bind fun _ =>
 (qa7 x1.told (IntKind.wrap .i64 ((IntKind.wrap .i64 (y7*3))+y22))).bind fun x36 =>
 (bif x36 then
 qi1 y22 (qbs x1 y7 rec8 n) (IntKind.wrap .i64 (y21+1))
 else
 qi1 y22 (qbs x1 y7 rec8 n) y21)
 else
 (some (qac x1.ops y7)).bind fun r49 =>
 (bif r49 then
 qi2 y7 rec8 (decide (y21<2))
 else
 qi2 y7 rec8 false))
def qca (fu:Nat) (x1:GCase):Nat→Int→Option Bool
 | 0,_=>none
 | n+1,y7 =>
 (bif decide (y7<2) then
 qbs x1 y7 (qca fu x1 n) fu 0 0
 else
 some true)
def qo4 (fu:Nat) (x1:GCase):Option Bool :=
 qca fu x1 fu 0
theorem q1q {M:Mm} {w:World} {cx1:List Value} {x1:GCase} {fu:Nat} {r:Bool} (hA:Agree M w) (hcx1:rep M cx1 x1) (hz:qo4 fu x1=some r) :
    Calls Try.prog 85 #[.agg cx1.toArray] w (qc1 w (.bool r)):=by
 refine Zh Try.func85 rfl 31 rfl rfl (by kernel_rfl) fun T hT => ?_
 have hT_0:T 0 = .agg cx1.toArray:=hT 0
 clear hT
 have hE:=Qg w.heap.size noX M
 have hS:St w noX M [] w:=Zx hA
 rw [qo4] at hz
 refine Qh <|Qi ?_
 refine Qs (Yo (v := .agg cx1.toArray) (cs:=cx1) hT_0 rfl hS ?_)
 intro b3 w2 hb3 hS
 refine Qc (Qj (.bool false) rfl) ?_
 refine Qf (Qa ?_)
 refine Qh <|Qh <|Qi <|Qc (Qe (.int .i64 0) rfl) ?_
 refine Qf (Qa ?_)
 refine Qv ?_
 refine Zw (fun k9 T' w' => ∃ M5 y7,Mm.ext w.heap.size noX M M5∧St w noX M5 [.box b3 cx1 49] w'∧T' 1 = .pointer (some ⟨b3,0,none⟩)∧T' 6 = .int .i64 y7∧qca fu x1 k9 y7=some r) fu ?_ ?_ ?_
 exact ⟨M,(0:Int),(Qg _ _ _),hS,rfl,rfl,hz⟩
 rintro T' w' ⟨_,_,_,_,_,_,hz⟩
 rw [qca] at hz
 cases hz
 intro k9
 rintro T6 w4 ⟨M5,y7,hx11,hS,hT6_1,hT6_6,hz⟩
 replace hcx1:=Rep.mono hx11.1 hcx1
 have hF10:=hx11
 rw [qca] at hz
 obtain ⟨rec8,hrec8⟩ : ∃ f,f=qca fu x1 k9:=⟨_,rfl⟩
 rw [← hrec8] at hz
 refine Qh <|Qi <|Qc (Zv hT6_6 rfl) ?_
 refine Qf (Qa ?_)
 refine Qh ?_
 refine Qr rfl (fun hc12 => ?_) (fun hc12 => ?_)
 replace hz:=Qn hz hc12
 refine Qt (Qa ?_)
 refine Q0 (fun T' w' => ∃ M14,Mm.ext w.heap.size noX M5 M14∧St w noX M14 [.box b3 cx1 49] w'∧T' 1 = .pointer (some ⟨b3,0,none⟩)∧T' 6 = .int .i64 y7∧qln y7 rec8=some r) ?_ ?_
 have hF17:=Qg w.heap.size noX M5
 refine Qv <|Qh <|Qi <|Qc (Qe (.int .i64 y7) hT6_6) <|Qc (Qj (.int .i64 y7) rfl) ?_
 refine Qf (Qa ?_)
 refine Qh <|Qi <|Qc (Qj (.int .i64 0) rfl) ?_
 refine Qf (Qa ?_)
 refine Qh <|Qh <|Qi <|Qc (Qe (.int .i64 0) rfl) ?_
 refine Qf (Qa ?_)
 refine Qv ?_
 refine Zw (fun k24 T' w' => ∃ M19 y21 y22,Mm.ext w.heap.size noX M5 M19∧St w noX M19 [.box b3 cx1 49] w'∧T' 1 = .pointer (some ⟨b3,0,none⟩)∧T' 3 = .int .i64 y7∧T' 4 = .int .i64 y21∧T' 6 = .int .i64 y7∧T' 9 = .int .i64 y22∧qbs x1 y7 rec8 k24 y21 y22=some r) fu ?_ ?_ ?_
 exact ⟨M5,(0:Int),(0:Int),(Qg _ _ _),hS,hT6_1,rfl,rfl,hT6_6,rfl,hz⟩
 rintro T' w' ⟨_,_,_,_,_,_,_,_,_,_,hz⟩
 rw [qbs] at hz
 cases hz
 intro k24
 rintro T20 w18 ⟨M19,y21,y22,hx26,hS,hT20_1,hT20_3,hT20_4,hT20_6,hT20_9,hz⟩
 replace hcx1:=Rep.mono hx26.1 hcx1
 replace hF17:=Qd hF17 hx26
 have hF25:=hx26
 rw [qbs] at hz
 obtain ⟨rec23,hrec23⟩ : ∃ f,f=qbs x1 y7 rec8 k24:=⟨_,rfl⟩
 rw [← hrec23] at hz
 refine Qh <|Qi <|Qc (Zv hT20_9 rfl) ?_
 refine Qf (Qa ?_)
 refine Qh ?_
 refine Qr rfl (fun hc27 => ?_) (fun hc27 => ?_)
 replace hz:=Qn hz hc27
 refine Qt (Qa ?_)
 refine Q0 (fun T' w' => ∃ M29 y31,Mm.ext w.heap.size noX M19 M29∧St w noX M29 [.box b3 cx1 49] w'∧T' 1 = .pointer (some ⟨b3,0,none⟩)∧T' 3 = .int .i64 y7∧T' 4 = .int .i64 y31∧T' 6 = .int .i64 y7∧T' 9 = .int .i64 y22∧qi1 y22 rec23 y31=some r) ?_ ?_
 have hF33:=Qg w.heap.size noX M19
 refine Qv <|Qh <|Qi <|Qc (Qe (.int .i64 y22) hT20_9) <|Qc (Qj (.int .i64 y22) rfl) ?_
 refine Qf (Qa ?_)
 refine Qh <|Qi <|Qc (Qe (.int .i64 y7) hT20_3) <|Qc (q5l rfl rfl) <|Qc (Qe (.int .i64 y22) rfl) <|Qc (Zz rfl rfl) <|Qc (Qp qth hT20_1) ?_
 obtain ⟨u34,hx35,hz⟩:=Qb hz
 obtain ⟨hx35a,hx35b⟩:=Qw hx35
 refine Qc (Ze Jr rfl rfl hx35a hx35b) ?_
 obtain ⟨x36,hx37,hz⟩:=Qb hz
 refine Qc (Qm (.bool x36) Jl rfl (hS.bvB 0 rfl) (vp (k:=1) rfl rfl (K5 (rr hcx1)) hx37)) ?_
 refine Qf (Qa ?_)
 refine Qr rfl (fun hc38 => ?_) (fun hc38 => ?_)
 replace hz:=Qn hz hc38
 refine Qi <|Qc (Qe (.int .i64 y21) hT20_4) <|Qc (Zz rfl rfl) <|Qc (Qj (.int .i64 (IntKind.wrap .i64 (y21+1))) rfl) ?_
 refine Qf (Za ?_)
 refine (Qa ?_)
 exact ⟨M19,(IntKind.wrap .i64 (y21+1)),hF33,hS,hT20_1,hT20_3,rfl,hT20_6,hT20_9,hz⟩
 replace hz:=Qo hz hc38
 refine Qt (Za ?_)
 refine (Qa ?_)
 exact ⟨M19,y21,hF33,hS,hT20_1,hT20_3,hT20_4,hT20_6,hT20_9,hz⟩
 rintro T30 w28 ⟨M29,y31,hx32,hS,hT30_1,hT30_3,hT30_4,hT30_6,hT30_9,hz⟩
 replace hF25:=Qd hF25 hx32
 rw [qi1] at hz
 refine Qi <|Qc (Zz hT30_9 rfl) <|Qc (Qe (.int .i64 (IntKind.wrap .i64 (y22+1))) rfl) ?_
 refine Qf (Qa ?_)
 exact ⟨M29,y31,(IntKind.wrap .i64 (y22+1)),hF25,hS,hT30_1,hT30_3,hT30_4,hT30_6,rfl,(by rw [← hrec23];exact hz)⟩
 replace hz:=Qo hz hc27
 refine Zq <|Qy <|Qy <|Zs ?_
 refine (Qa ?_)
 refine Q0 (fun T' w' => ∃ M40 c42,Mm.ext w.heap.size noX M19 M40∧St w noX M40 [.box b3 cx1 49] w'∧T' 1 = .pointer (some ⟨b3,0,none⟩)∧T' 6 = .int .i64 y7∧T' 29 = .bool c42∧qi2 y7 rec8 c42=some r) ?_ ?_
 have hF45:=Qg w.heap.size noX M19
 refine Qi <|Qc (Qp V3 hT20_1) ?_
 obtain ⟨v46,ev46,hv46⟩:=(Y9 (rr hcx1))
 refine Qc (Qm v46 Vp rfl (hS.bvB 0 rfl) ev46) <|Qc (Qe (.int .i64 y7) hT20_3) ?_
 obtain ⟨r49,hr48,hz⟩:=Qb hz
 replace hr48:=Option.some.inj hr48
 refine Qs (Z6 (vs:=[v46,.int .i64 y7]) (v := .bool r49) q8u (Z8 rfl rfl) hS (hr48 ▸ (Ja hS.agree hv46)) ?_)
 intro w47 hS
 refine Qc (Qe (.bool r49) rfl) ?_
 rcases ic hz with ⟨hc50,hz⟩ | ⟨hc50,hz⟩<;>rw [hc50]
 refine Qk rfl rfl (Qe (.int .i64 y21) hT20_4) <|Qk rfl rfl (Zv rfl rfl) <|Qc (Zy (.bool (decide (y21<2))) rfl rfl) ?_
 refine Qf (Qa ?_)
 exact ⟨M19,(decide (y21<2)),hF45,hS,hT20_1,hT20_6,rfl,hz⟩
 refine Q2 3 rfl ?_
 refine Qf (Qa ?_)
 exact ⟨M19,false,hF45,hS,hT20_1,hT20_6,rfl,hz⟩
 rintro T41 w39 ⟨M40,c42,hx43,hS,hT41_1,hT41_6,hT41_29,hz⟩
 replace hF17:=Qd hF17 hx43
 rw [qi2] at hz
 refine Qr hT41_29 (fun hc44 => ?_) (fun hc44 => ?_)
 replace hz:=Qn hz hc44
 refine Qh <|Qi <|Qc (Qj (.bool false) rfl) ?_
 refine Qf (Qa ?_)
 cases hz
 exact Q4 (Zb (Qq (Qq (Zb (Qq (Yg rfl rfl ⟨rfl,(Ql hS).kept⟩))))))
 replace hz:=Qo hz hc44
 refine Qt (Za ?_)
 refine (Qa ?_)
 exact ⟨M40,hF17,hS,hT41_1,hT41_6,hz⟩
 rintro T15 w13 ⟨M14,hx16,hS,hT15_1,hT15_6,hz⟩
 replace hF10:=Qd hF10 hx16
 rw [qln] at hz
 refine Qi <|Qc (Zz hT15_6 rfl) <|Qc (Qe (.int .i64 (IntKind.wrap .i64 (y7+1))) rfl) ?_
 refine Qf (Qa ?_)
 exact ⟨M14,(IntKind.wrap .i64 (y7+1)),hF10,hS,hT15_1,rfl,(by rw [← hrec8];exact hz)⟩
 replace hz:=Qo hz hc12
 refine Zq <|Qy <|Qy <|Zs ?_
 refine (Qa ?_)
 refine Qh <|Qi <|Qc (Qj (.bool true) rfl) ?_
 refine Qf (Qa ?_)
 cases hz
 exact Q4 (Yg rfl rfl ⟨rfl,(Ql hS).kept⟩)
def qhx (fu:Nat) (x1:GCase) (x2:Int) (x3:GFrame) (d30:GCase):Option (GCase × (List GFrame) × Int) :=
 (inR x3.node 6).bind fun _ =>
 (qa7 x1.told x3.node).bind fun x36 =>
 (qe2 x1.told x3.node true).bind fun a38 =>
 (some ({ x1 with told:=a38 }:GCase)).bind fun d40 =>
 (some (qgx d40.deps x3.deps)).bind fun r45 =>
 (some ({ d40 with deps:=r45 }:GCase)).bind fun d48 =>
 (qo4 fu d48).bind fun r52 =>
 (some ({ d48 with fixed:=r52 }:GCase)).bind fun d55 =>
 (bif !d55.fixed then
 (some d55).bind fun d60 =>
 some (d60,[],0)
 else
 (qo0 fu d55 x2).bind fun r68 =>
 (some d55).bind fun d72 =>
 some (d72,r68,0))
def qet (fu:Nat) (x1:GCase) (x2:Int) (x3:GFrame) (d14:GCase) (c78:Bool):Option (GCase × (List GFrame) × Int) :=
 (bif c78 then
 (some x1).bind fun d84 =>
 some (d84,[],0)
 else
 qhx fu x1 x2 x3 d14)
def qhy (d109:GCase):Option (GCase × (List GFrame) × Int) :=
 (some d109).bind fun d114 =>
 some (d114,[],0)
def qeu (y134:Int) (rec135:GCase→Int→Option (GCase × (List GFrame) × Int)) (d144:GCase):Option (GCase × (List GFrame) × Int) :=
 rec135 d144 (IntKind.wrap .i64 (y134+1))
def qc9 (x3:GFrame) (d133:GCase) (y134:Int) (rec135:GCase→Int→Option (GCase × (List GFrame) × Int)) (x148:Int) (c152:Bool):Option (GCase × (List GFrame) × Int) :=
 (bif c152 then
 (idx x3.vals y134).bind fun x160 =>
 (inR x148 4).bind fun _ =>
 (qa7 d133.has x148).bind fun x165 =>
 (qe2 d133.has x148 true).bind fun a167 =>
 (some ({ d133 with has:=a167 }:GCase)).bind fun d169 =>
 (inR x148 4).bind fun _ =>
 (qa7 d169.values x148).bind fun x175 =>
 (qe2 d169.values x148 x160).bind fun a177 =>
 (some ({ d169 with values:=a177 }:GCase)).bind fun d179 =>
 qeu y134 rec135 d179
 else
 qeu y134 rec135 d133)
def qbb (x3:GFrame):Nat→GCase→Int→Option (GCase × (List GFrame) × Int)
 | 0,_,_=>none
 | n+1,d133,y134 =>
 (bif decide (y134<(x3.at_.length:Int)) then
 (idx x3.at_ y134).bind fun x148 =>
 (bif d133.fixed then
 (bif decide (x148<(d133.ops.length:Int)) then
 (idx d133.ops x148).bind fun x191 =>
 (some (qas x191.key)).bind fun r194 =>
 (some (ofZ x3.node)).bind fun r198 =>
 (bif r194==r198 then
 (inR x148 4).bind fun _ =>
 (qa7 d133.has x148).bind fun x203 =>
 qc9 x3 d133 y134 (qbb x3 n) x148 (!x203)
 else
 qc9 x3 d133 y134 (qbb x3 n) x148 false)
 else
 qc9 x3 d133 y134 (qbb x3 n) x148 false)
 else
 qc9 x3 d133 y134 (qbb x3 n) x148 false)
 else
 (some d133).bind fun d208 =>
 some (d208,[],0))
def qhz (fu:Nat) (x1:GCase) (x2:Int) (x3:GFrame) (d14:GCase):Option (GCase × (List GFrame) × Int) :=
 (some (qak x3)).bind fun r19 =>
 (bif r19 != 0 then
 (some x1).bind fun d24 =>
 some (d24,[],r19)
 else
 (bif x3.kind==2 then
 (bif x1.fixed then
 qet fu x1 x2 x3 d14 true
 else
 (inR x3.node 6).bind fun _ =>
 (qa7 x1.told x3.node).bind fun x92 =>
 (bif x92 then
 qet fu x1 x2 x3 d14 true
 else
 (some (ofZ x3.node)).bind fun r98 =>
 (some (qac x1.ops r98)).bind fun r102 =>
 qet fu x1 x2 x3 d14 (!r102)))
 else
 (bif x3.kind==4 then
 (bif x1.fixed then
 (inR x3.node 6).bind fun _ =>
 (qa7 x1.known x3.node).bind fun x121 =>
 (qe2 x1.known x3.node true).bind fun a123 =>
 (some ({ x1 with known:=a123 }:GCase)).bind fun d125 =>
 qhy d125
 else
 qhy x1)
 else
 (bif x3.kind==5 then
 qbb x3 fu x1 0
 else
 (some x1).bind fun d212 =>
 some (d212,[],3)))))
def qdu (fu:Nat) (x1:GCase) (x2:Int) (x3:GFrame) (c217:Bool):Option (GCase × (List GFrame) × Int) :=
 (bif c217 then
 (some x1).bind fun d223 =>
 some (d223,[],2)
 else
 qhz fu x1 x2 x3 (Zr.zd:GCase))
def qi3 (fu:Nat) (x1:GCase) (x2:Int) (x3:GFrame):Option (GCase × (List GFrame) × Int) :=
 (qf5 fu x1).bind fun r228 =>
 (bif !r228 then
 qdu fu x1 x2 x3 true
 else
 (bif !x1.begun then
 qdu fu x1 x2 x3 true
 else
 (bif x3.id != x2 then
 qdu fu x1 x2 x3 true
 else
 (some (qcp x1.deps x2)).bind fun r235 =>
 qdu fu x1 x2 x3 r235)))
theorem qo5 {M:Mm} {w:World} {cx1:List Value} {cx3:List Value} {x1:GCase} {x2:Int} {x3:GFrame} {fu:Nat} {r:GCase × (List GFrame) × Int} (hA:Agree M w) (hcx1:rep M cx1 x1) (hcx3:rep M cx3 x3) (hz:qi3 fu x1 x2 x3=some r) :
    Calls Try.prog 69 #[.agg cx1.toArray,.int .i64 x2,.agg cx3.toArray] w (Gives M w (fun M' u => ∃ c0 v1,u = .tuple #[.agg c0.toArray,v1,.int .i64 r.2.2]∧rep M' c0 r.1∧repL M' v1 r.2.1)):=by
 refine Zh Try.func69 rfl 146 rfl rfl (by kernel_rfl) fun T hT => ?_
 have hT_0:T 0 = .agg cx1.toArray:=hT 0
 have hT_1:T 1 = .int .i64 x2:=hT 1
 have hT_2:T 2 = .agg cx3.toArray:=hT 2
 clear hT
 have hE:=Qg w.heap.size noX M
 have hS:St w noX M [] w:=Zx hA
 rw [qi3] at hz
 refine Qh <|Qi ?_
 refine Qs (Yo (v := .agg cx1.toArray) (cs:=cx1) hT_0 rfl hS ?_)
 intro b5 w4 hb5 hS
 refine Qs (Yo (v := .agg cx3.toArray) (cs:=cx3) hT_2 rfl hS ?_)
 intro b7 w6 hb7 hS
 refine Qs (Zg q32 hS ?_)
 intro b9 w8 hb9 hS
 have zb9:rep M (Zr.zc GCase) (Zr.zd:GCase):=Zr.zr
 refine Q2 2 rfl ?_
 refine Qf (Qa ?_)
 refine Q0 (fun T' w' => ∃ M11 cs13 d14,Mm.ext w.heap.size noX M M11∧St w noX M11 [.box b9 cs13 49,.box b7 cx3 118,.box b5 cx1 49] w'∧rep M11 cs13 d14∧T' 1 = .int .i64 x2∧T' 3 = .pointer (some ⟨b5,0,none⟩)∧T' 5 = .pointer (some ⟨b7,0,none⟩)∧T' 6 = .pointer (some ⟨b9,0,none⟩)∧qhz fu x1 x2 x3 d14=some r) ?_ ?_
 have hF213:=Qg w.heap.size noX M
 refine Qv ?_
 refine Q0 (fun T' w' => ∃ M215 c217,Mm.ext w.heap.size noX M M215∧St w noX M215 [.box b9 (Zr.zc GCase) 49,.box b7 cx3 118,.box b5 cx1 49] w'∧T' 1 = .int .i64 x2∧T' 3 = .pointer (some ⟨b5,0,none⟩)∧T' 5 = .pointer (some ⟨b7,0,none⟩)∧T' 6 = .pointer (some ⟨b9,0,none⟩)∧T' 12 = .bool c217∧qdu fu x1 x2 x3 c217=some r) ?_ ?_
 have hF224:=Qg w.heap.size noX M
 refine Qi ?_
 have ha225:=(rr hcx1)
 refine Qc (Zf Vc rfl (hS.bvB 2 rfl) (Rep.len ha225)) ?_
 obtain ⟨r228,hr227,hz⟩:=Qb hz
 refine Qs (Z6 (vs:=[.agg (sl cx1 (0) 24).toArray]) (v := .bool r228) za6 (Zu rfl) hS (qks hS.agree ha225 hr227) ?_)
 intro w226 hS
 refine Qc (Ye rfl) <|Qc (Qe (.bool (!r228)) rfl) ?_
 rcases ic hz with ⟨hc229,hz⟩ | ⟨hc229,hz⟩<;>rw [hc229]
 refine Q2 17 rfl ?_
 refine Qf (Qa ?_)
 exact ⟨M,true,hF224,hS,hT_1,rfl,rfl,rfl,rfl,hz⟩
 refine Qk rfl rfl (Qp qxp rfl) <|Qk rfl rfl (Qm (.bool x1.begun) Jl rfl (hS.bvB 2 rfl) (GCase.p0 (rr hcx1))) <|Qk rfl rfl (Ye rfl) <|Q2 2 rfl ?_
 rcases ic hz with ⟨hc230,hz⟩ | ⟨hc230,hz⟩<;>rw [hc230]
 refine Q2 12 rfl ?_
 refine Qf (Qa ?_)
 exact ⟨M,true,hF224,hS,hT_1,rfl,rfl,rfl,rfl,hz⟩
 refine Qk rfl rfl (Qp Yk rfl) <|Qk rfl rfl (Qm (.int .i64 x3.id) Yb rfl (hS.bvB 1 rfl) (Z9 (rr hcx3))) <|Qk rfl rfl (Qe (.int .i64 x2) hT_1) <|Qk rfl rfl (Yl rfl rfl) <|Q2 2 rfl ?_
 rcases ic hz with ⟨hc231,hz⟩ | ⟨hc231,hz⟩<;>rw [hc231]
 refine Q2 6 rfl ?_
 refine Qf (Qa ?_)
 exact ⟨M,true,hF224,hS,hT_1,rfl,rfl,rfl,rfl,hz⟩
 refine Qk rfl rfl (Qp K4 rfl) ?_
 obtain ⟨v232,ev232,hv232⟩:=(V1 (rr hcx1))
 refine Qk rfl rfl (Qm v232 Z4 rfl (hS.bvB 2 rfl) ev232) <|Qk rfl rfl (Qe (.int .i64 x2) hT_1) ?_
 obtain ⟨r235,hr234,hz⟩:=Qb hz
 replace hr234:=Option.some.inj hr234
 refine Kf rfl rfl (Z6 (vs:=[v232,.int .i64 x2]) (v := .bool r235) q5c (Z8 rfl rfl) hS (hr234 ▸ (Vq hS.agree hv232)) ?_)
 intro w233 hS
 refine Q2 2 rfl ?_
 refine Qf (Qa ?_)
 exact ⟨M,r235,hF224,hS,hT_1,rfl,rfl,rfl,rfl,hz⟩
 rintro T216 w214 ⟨M215,c217,hx218,hS,hT216_1,hT216_3,hT216_5,hT216_6,hT216_12,hz⟩
 replace hcx1:=Rep.mono hx218.1 hcx1
 replace zb9:=Rep.mono hx218.1 zb9
 replace hE:=Qd hE hx218
 replace hF213:=Qd hF213 hx218
 rw [qdu] at hz
 refine Qr hT216_12 (fun hc219 => ?_) (fun hc219 => ?_)
 replace hz:=Qn hz hc219
 refine Qh <|Qi ?_
 have ha220:=(rr hcx1)
 refine Qc (Zf Vc hT216_3 (hS.bvB 2 rfl) (Rep.len ha220)) ?_
 obtain ⟨d223,hd222,hz⟩:=Qb hz
 refine Qs (Q8 0 24 hS rfl zb9 hT216_6 rfl ha220 rfl rfl (Lf (rr zb9) ha220) hd222 ?_)
 intro cs222 w221 hb222 ha222 hs222 hS
 refine Q2 2 rfl ?_
 refine Qf (Qa ?_)
 cases hz
 exact Q4 (Zb (Qq (V7 (j:=0) rfl hT216_6 rfl rfl (by rw [Rep.len hb222];exact Vc) hS rfl (Zk (Ql (Ql (Ql hS))) hE ⟨_,_,rfl,hb222,(Z5 _)⟩))))
 replace hz:=Qo hz hc219
 refine Qt (Za ?_)
 refine (Qa ?_)
 exact ⟨M215,(Zr.zc GCase),(Zr.zd:GCase),hF213,hS,zb9,hT216_1,hT216_3,hT216_5,hT216_6,hz⟩
 rintro T12 w10 ⟨M11,cs13,d14,hx15,hS,hb13,hT12_1,hT12_3,hT12_5,hT12_6,hz⟩
 replace hcx1:=Rep.mono hx15.1 hcx1
 replace hcx3:=Rep.mono hx15.1 hcx3
 replace hE:=Qd hE hx15
 rw [qhz] at hz
 refine Qh <|Qh <|Qi ?_
 have ha16:=(rr hcx3)
 refine Qc (Zf K1 hT12_5 (hS.bvB 1 rfl) (Rep.len ha16)) ?_
 obtain ⟨r19,hr18,hz⟩:=Qb hz
 replace hr18:=Option.some.inj hr18
 refine Qs (Z6 (vs:=[.agg (sl cx3 (0) 7).toArray]) (v := .int .i64 r19) q9p (Zu rfl) hS (hr18 ▸ (qxu hS.agree ha16)) ?_)
 intro w17 hS
 refine Qc (Qj (.int .i64 r19) rfl) ?_
 refine Qf (Qa ?_)
 refine Qh <|Qi <|Qc (Qe (.int .i64 r19) rfl) <|Qc (Yl rfl rfl) ?_
 refine Qf (Qa ?_)
 refine Qr rfl (fun hc20 => ?_) (fun hc20 => ?_)
 replace hz:=Qn hz hc20
 refine Qh <|Qi ?_
 have ha21:=(rr hcx1)
 refine Qc (Zf Vc hT12_3 (hS.bvB 2 rfl) (Rep.len ha21)) <|Qc (Qe (.int .i64 r19) rfl) ?_
 obtain ⟨d24,hd23,hz⟩:=Qb hz
 refine Qs (Q8 0 24 hS rfl hb13 hT12_6 rfl ha21 rfl rfl (Lf (rr hb13) ha21) hd23 ?_)
 intro cs23 w22 hb23 ha23 hs23 hS
 refine Q2 2 rfl ?_
 refine Qf (Qa ?_)
 cases hz
 exact Q4 (Qq (V7 (j:=0) rfl hT12_6 rfl rfl (by rw [Rep.len hb23];exact Vc) hS rfl (Zk (Ql (Ql (Ql hS))) hE ⟨_,_,rfl,hb23,(Z5 _)⟩)))
 replace hz:=Qo hz hc20
 refine Qt (Qa ?_)
 refine Qh <|Qh <|Qi <|Qc (Qp Vu hT12_5) <|Qc (Qm (.int .i64 x3.kind) Yb rfl (hS.bvB 1 rfl) (Y1 (rr hcx3))) ?_
 refine Qf (Qa ?_)
 refine Qv <|Qh <|Qi <|Qc (Yd rfl rfl) <|Qc (Qj (.bool (x3.kind==2)) rfl) ?_
 refine Qf (Qa ?_)
 refine Qr rfl (fun hc25 => ?_) (fun hc25 => ?_)
 replace hz:=Qn hz hc25
 refine Q0 (fun T' w' => ∃ M27 cs29 d30,Mm.ext w.heap.size noX M11 M27∧St w noX M27 [.box b9 cs29 49,.box b7 cx3 118,.box b5 cx1 49] w'∧rep M27 cs29 d30∧T' 1 = .int .i64 x2∧T' 3 = .pointer (some ⟨b5,0,none⟩)∧T' 5 = .pointer (some ⟨b7,0,none⟩)∧T' 6 = .pointer (some ⟨b9,0,none⟩)∧qhx fu x1 x2 x3 d30=some r) ?_ ?_
 have hF74:=Qg w.heap.size noX M11
 refine Q0 (fun T' w' => ∃ M76 c78,Mm.ext w.heap.size noX M11 M76∧St w noX M76 [.box b9 cs13 49,.box b7 cx3 118,.box b5 cx1 49] w'∧T' 1 = .int .i64 x2∧T' 3 = .pointer (some ⟨b5,0,none⟩)∧T' 5 = .pointer (some ⟨b7,0,none⟩)∧T' 6 = .pointer (some ⟨b9,0,none⟩)∧T' 61 = .bool c78∧qet fu x1 x2 x3 d14 c78=some r) ?_ ?_
 have hF85:=Qg w.heap.size noX M11
 refine Yu [.box b7 cx3 118,.box b5 cx1 49] [] Ya hS fun w86 hS hG87 hR88=>wy 0 rfl (Qp Jm hT12_3) (fun _=>hR88) <|Y8 1 rfl (Qm (.bool x1.fixed) Jl rfl (Yp 1 rfl) (Kh (rr hcx1))) hR88 <|wy 2 rfl (Qe (.bool x1.fixed) rfl) (fun _=>hR88) ?_
 rcases ic hz with ⟨hc89,hz⟩ | ⟨hc89,hz⟩<;>rw [hc89]
 refine Yj 3 (j:=2) rfl rfl rfl rfl (fun _=>hR88) <|Yj 4 (j:=2) rfl rfl rfl rfl (fun _=>hR88) <|Yj 5 (j:=2) rfl rfl rfl rfl (fun _=>hR88) <|Yj 6 (j:=2) rfl rfl rfl rfl (fun _=>hR88) <|Yj 7 (j:=2) rfl rfl rfl rfl (fun _=>hR88) <|wy 8 rfl (Zy (.bool true) rfl rfl) (fun _=>hR88) <|wy 9 rfl (Qe (.bool true) rfl) (fun _=>hR88) <|Yj 10 (j:=9) rfl rfl rfl rfl (fun _=>hR88) <|Yj 11 (j:=9) rfl rfl rfl rfl (fun _=>hR88) <|Yj 12 (j:=9) rfl rfl rfl rfl (fun _=>hR88) <|Yj 13 (j:=9) rfl rfl rfl rfl (fun _=>hR88) <|Yj 14 (j:=9) rfl rfl rfl rfl (fun _=>hR88) <|Yj 15 (j:=9) rfl rfl rfl rfl (fun _=>hR88) <|Yj 16 (j:=9) rfl rfl rfl rfl (fun _=>hR88) <|wy 17 rfl (Zy (.bool true) rfl rfl) (fun _=>hR88) ?_
 refine wd (Qa ?_)
 exact ⟨M11,true,hF85,hS,hT12_1,hT12_3,hT12_5,hT12_6,rfl,hz⟩
 refine V4 3 rfl rfl rfl (Qp V8 hT12_5) (fun _=>hR88) <|K6 4 rfl rfl rfl (Qm (.int .i64 x3.node) Yb rfl (Yp 0 rfl) (Vg (rr hcx3))) hR88 <|V4 5 rfl rfl rfl (Qp qth hT12_3) (fun _=>hR88) ?_
 obtain ⟨u90,hx91,hz⟩:=Qb hz
 obtain ⟨hx91a,hx91b⟩:=Qw hx91
 refine V4 6 rfl rfl rfl (Ze Jr rfl rfl hx91a hx91b) (fun _=>hR88) ?_
 obtain ⟨x92,hx93,hz⟩:=Qb hz
 refine K6 7 rfl rfl rfl (Qm (.bool x92) Jl rfl (Yp 1 rfl) (vp (k:=1) rfl rfl (K5 (rr hcx1)) hx93)) hR88 <|wy 8 rfl (Zi (.bool x92) rfl rfl) (fun _=>hR88) <|wy 9 rfl (Qe (.bool x92) rfl) (fun _=>hR88) ?_
 rcases ic hz with ⟨hc94,hz⟩ | ⟨hc94,hz⟩<;>rw [hc94]
 refine Yj 10 (j:=9) rfl rfl rfl rfl (fun _=>hR88) <|Yj 11 (j:=9) rfl rfl rfl rfl (fun _=>hR88) <|Yj 12 (j:=9) rfl rfl rfl rfl (fun _=>hR88) <|Yj 13 (j:=9) rfl rfl rfl rfl (fun _=>hR88) <|Yj 14 (j:=9) rfl rfl rfl rfl (fun _=>hR88) <|Yj 15 (j:=9) rfl rfl rfl rfl (fun _=>hR88) <|Yj 16 (j:=9) rfl rfl rfl rfl (fun _=>hR88) <|wy 17 rfl (Zy (.bool true) rfl rfl) (fun _=>hR88) ?_
 refine wd (Qa ?_)
 exact ⟨M11,true,hF85,hS,hT12_1,hT12_3,hT12_5,hT12_6,rfl,hz⟩
 refine V4 10 rfl rfl rfl (Qp V3 hT12_3) (fun _=>hR88) ?_
 obtain ⟨v95,ev95,hv95⟩:=(Y9 (rr hcx1))
 refine K6 11 rfl rfl rfl (Qm v95 Vp rfl (Yp 1 rfl) ev95) hR88 <|V4 12 rfl rfl rfl (Qp V8 hT12_5) (fun _=>hR88) <|K6 13 rfl rfl rfl (Qm (.int .i64 x3.node) Yb rfl (Yp 0 rfl) (Vg (rr hcx3))) hR88 ?_
 obtain ⟨r98,hr97,hz⟩:=Qb hz
 replace hr97:=Option.some.inj hr97
 refine w1g 14 rfl rfl rfl (Z6 (vs:=[.int .i64 x3.node]) (v := .int .i64 r98) q8v (Zu rfl) hS (hr97 ▸ (q82)) ?_)
 intro w96 hS
 refine Yq hS hG87 fun hR99 => ?_
 obtain ⟨r102,hr101,hz⟩:=Qb hz
 replace hr101:=Option.some.inj hr101
 refine w1g 15 rfl rfl rfl (Z6 (vs:=[v95,.int .i64 r98]) (v := .bool r102) q8u (Z8 rfl rfl) hS (hr101 ▸ (Ja hS.agree hv95)) ?_)
 intro w100 hS
 refine Yq hS hG87 fun hR103=>V4 16 rfl rfl rfl (Ye rfl) (fun _=>hR103) <|wy 17 rfl (Zi (.bool (!r102)) rfl rfl) (fun _=>hR103) ?_
 refine wd (Qa ?_)
 exact ⟨M11,(!r102),hF85,hS,hT12_1,hT12_3,hT12_5,hT12_6,rfl,hz⟩
 rintro T77 w75 ⟨M76,c78,hx79,hS,hT77_1,hT77_3,hT77_5,hT77_6,hT77_61,hz⟩
 replace hcx1:=Rep.mono hx79.1 hcx1
 replace hb13:=Rep.mono hx79.1 hb13
 replace hE:=Qd hE hx79
 replace hF74:=Qd hF74 hx79
 rw [qet] at hz
 refine Qr hT77_61 (fun hc80 => ?_) (fun hc80 => ?_)
 replace hz:=Qn hz hc80
 refine Qh <|Qi ?_
 have ha81:=(rr hcx1)
 refine Qc (Zf Vc hT77_3 (hS.bvB 2 rfl) (Rep.len ha81)) ?_
 obtain ⟨d84,hd83,hz⟩:=Qb hz
 refine Qs (Q8 0 24 hS rfl hb13 hT77_6 rfl ha81 rfl rfl (Lf (rr hb13) ha81) hd83 ?_)
 intro cs83 w82 hb83 ha83 hs83 hS
 refine Q2 2 rfl ?_
 refine Qf (Qa ?_)
 cases hz
 exact Q4 (Qq (Zb (Qq (V7 (j:=0) rfl hT77_6 rfl rfl (by rw [Rep.len hb83];exact Vc) hS rfl (Zk (Ql (Ql (Ql hS))) hE ⟨_,_,rfl,hb83,(Z5 _)⟩)))))
 replace hz:=Qo hz hc80
 refine Qt (Qa ?_)
 exact ⟨M76,cs13,d14,hF74,hS,hb13,hT77_1,hT77_3,hT77_5,hT77_6,hz⟩
 rintro T28 w26 ⟨M27,cs29,d30,hx31,hS,hb29,hT28_1,hT28_3,hT28_5,hT28_6,hz⟩
 replace hcx1:=Rep.mono hx31.1 hcx1
 replace hcx3:=Rep.mono hx31.1 hcx3
 rw [qhx] at hz
 refine Qh <|Qi <|Qc (Qp V8 hT28_5) <|Qc (Qm (.int .i64 x3.node) Yb rfl (hS.bvB 1 rfl) (Vg (rr hcx3))) <|Qc (Qp qth hT28_3) ?_
 obtain ⟨u32,hx33,hz⟩:=Qb hz
 obtain ⟨hx33a,hx33b⟩:=Qw hx33
 refine Qc (Ze Jr rfl rfl hx33a hx33b) ?_
 obtain ⟨x36,hx37,hz⟩:=Qb hz
 obtain ⟨a38,hx39,hz⟩:=Qb hz
 obtain ⟨d40,hd35,hz⟩:=Qb hz
 refine Qs (Q8 2 1 hS rfl hcx1 rfl rfl (rb true:rep M27 _ _) rfl rfl (GCase.u3 (rr hcx1) (vu (k:=1) rfl rfl (K5 (rr hcx1)) (Lf (vp (k:=1) rfl rfl (K5 (rr hcx1)) hx37) (rb true:rep M27 _ _)) hx39)) hd35 ?_)
 intro cs35 w34 hb35 ha35 hs35 hS
 refine Qf (Qa ?_)
 refine Qh <|Qi <|Qc (Qp K4 hT28_3) ?_
 obtain ⟨v41,ev41,hv41⟩:=(V1 (rr hb35))
 refine Qc (Qm v41 Z4 rfl (hS.bvB 2 rfl) ev41) <|Qc (Qp Y4 hT28_5) ?_
 obtain ⟨v42,ev42,hv42⟩:=(Yi (rr hcx3))
 refine Qc (Qm v42 Z4 rfl (hS.bvB 1 rfl) ev42) ?_
 obtain ⟨r45,hr44,hz⟩:=Qb hz
 replace hr44:=Option.some.inj hr44
 refine Qs (Y0 (vs:=[v41,v42]) (rv:=(fun M' u=>repL M' u r45)) cb84 (Z8 rfl rfl) hS (hr44 ▸ (q6l hS.agree hv41 hv42)) ?_)
 intro u44 M44 w43 hx44 hu44 hS
 have h44:repL M44 u44 r45:=hu44
 replace hb29:=Rep.mono hx44.1 hb29
 replace hb35:=Rep.mono hx44.1 hb35
 replace hE:=Qd hE (hx31.trans hx44)
 refine Qc (Qp K4 hT28_3) ?_
 obtain ⟨d48,hd47,hz⟩:=Qb hz
 refine Qs (Q8 2 1 hS rfl hb35 rfl rfl (Q1 h44) (Zc h44) rfl (GCase.u5 (rr hb35) (Lf (V1 (rr hb35)) (Q1 h44))) hd47 ?_)
 intro cs47 w46 hb47 ha47 hs47 hS
 refine Qf (Qa ?_)
 refine Qh <|Qh <|Qi ?_
 have ha49:=(rr hb47)
 refine Qc (Zf Vc hT28_3 (hS.bvB 2 rfl) (Rep.len ha49)) ?_
 obtain ⟨r52,hr51,hz⟩:=Qb hz
 refine Qs (Z6 (vs:=[.agg (sl cs47 (0) 24).toArray]) (v := .bool r52) cb85 (Zu rfl) hS (q1q hS.agree ha49 hr51) ?_)
 intro w50 hS
 refine Qc (Qp Jm hT28_3) ?_
 obtain ⟨d55,hd54,hz⟩:=Qb hz
 refine Qs (Q8 2 1 hS rfl hb47 rfl rfl (rb r52:rep M44 _ _) rfl rfl (GCase.u1 (rr hb47) (Lf (Kh (rr hb47)) (rb r52:rep M44 _ _))) hd54 ?_)
 intro cs54 w53 hb54 ha54 hs54 hS
 refine Qf (Qa ?_)
 refine Qh <|Qi <|Qc (Qp Jm hT28_3) <|Qc (Qm (.bool d55.fixed) Jl rfl (hS.bvB 2 rfl) (Kh (rr hb54))) <|Qc (Ye rfl) ?_
 refine Qf (Qa ?_)
 refine Qr rfl (fun hc56 => ?_) (fun hc56 => ?_)
 replace hz:=Qn hz hc56
 refine Qh <|Qi ?_
 have ha57:=(rr hb54)
 refine Qc (Zf Vc hT28_3 (hS.bvB 2 rfl) (Rep.len ha57)) ?_
 obtain ⟨d60,hd59,hz⟩:=Qb hz
 refine Qs (Q8 0 24 hS rfl hb29 hT28_6 rfl ha57 rfl rfl (Lf (rr hb29) ha57) hd59 ?_)
 intro cs59 w58 hb59 ha59 hs59 hS
 refine Q2 2 rfl ?_
 refine Qf (Qa ?_)
 cases hz
 exact Q4 (Qq (Zb (Qq (V7 (j:=0) rfl hT28_6 rfl rfl (by rw [Rep.len hb59];exact Vc) hS rfl (Zk (Ql (Ql (Ql hS))) hE ⟨_,_,rfl,hb59,(Z5 _)⟩)))))
 replace hz:=Qo hz hc56
 refine Qt (Qa ?_)
 refine Qh <|Yu [.box b5 cs54 49] [] Ya hS fun w61 hS hG62 hR63 => ?_
 have ha64:=(rr hb54)
 refine Y8 0 rfl (Zf Vc hT28_3 (Yp 0 rfl) (Rep.len ha64)) hR63 ?_
 have ha65:=(rr hb54)
 refine Y8 1 rfl (Zf Vc hT28_3 (Yp 0 rfl) (Rep.len ha65)) hR63 <|wy 2 rfl (Qe (.int .i64 x2) hT28_1) (fun _=>hR63) ?_
 obtain ⟨r68,hr67,hz⟩:=Qb hz
 refine w1 3 rfl (Y0 (vs:=[.agg (sl cs54 (0) 24).toArray,.int .i64 x2]) (rv:=(fun M' u=>repL M' u r68)) za8 (Z8 rfl rfl) hS (qr6 hS.agree ha65 hr67) ?_)
 intro u67 M67 w66 hx67 hu67 hS
 have f67:repL M67 u67 r68:=hu67
 replace hb29:=Rep.mono hx67.1 hb29
 replace ha64:=Rep.mono hx67.1 ha64
 replace hE:=Qd hE hx67
 replace hG62:=Qd hG62 hx67
 refine Yq hS hG62 fun hR69 => ?_
 obtain ⟨d72,hd71,hz⟩:=Qb hz
 refine w1 4 rfl (Q8 0 24 hS rfl hb29 hT28_6 rfl ha64 rfl rfl (Lf (rr hb29) ha64) hd71 ?_)
 intro cs71 w70 hb71 ha71 hs71 hS
 refine Yq hS hG62 fun hR73=>wy 5 rfl (Qj (u67) rfl) (fun _=>hR73) <|wy 6 rfl (Qj (.int .i64 0) rfl) (fun _=>hR73) ?_
 refine wd (Qa ?_)
 cases hz
 exact Q4 (Zb (Qq (V7 (j:=0) rfl hT28_6 rfl rfl (by rw [Rep.len hb71];exact Vc) hS rfl (Zk (Ql (Ql (Ql hS))) hE ⟨_,_,rfl,hb71,f67⟩))))
 replace hz:=Qo hz hc25
 refine Qh <|Qi <|Qc (Yd rfl rfl) <|Qc (Qj (.bool (x3.kind==4)) rfl) ?_
 refine Qf (Qa ?_)
 refine Qr rfl (fun hc104 => ?_) (fun hc104 => ?_)
 replace hz:=Qn hz hc104
 refine Q0 (fun T' w' => ∃ M106 cs108 d109,Mm.ext w.heap.size noX M11 M106∧St w noX M106 [.box b9 cs13 49,.box b7 cx3 118,.box b5 cs108 49] w'∧rep M106 cs108 d109∧T' 3 = .pointer (some ⟨b5,0,none⟩)∧T' 6 = .pointer (some ⟨b9,0,none⟩)∧qhy d109=some r) ?_ ?_
 have hF115:=Qg w.heap.size noX M11
 refine Qh <|Qi <|Qc (Qp Jm hT12_3) <|Qc (Qm (.bool x1.fixed) Jl rfl (hS.bvB 2 rfl) (Kh (rr hcx1))) ?_
 refine Qf (Qa ?_)
 refine Qr rfl (fun hc116 => ?_) (fun hc116 => ?_)
 replace hz:=Qn hz hc116
 refine Qi <|Qc (Qp V8 hT12_5) <|Qc (Qm (.int .i64 x3.node) Yb rfl (hS.bvB 1 rfl) (Vg (rr hcx3))) <|Qc (Qp q03 hT12_3) ?_
 obtain ⟨u117,hx118,hz⟩:=Qb hz
 obtain ⟨hx118a,hx118b⟩:=Qw hx118
 refine Qc (Ze Jr rfl rfl hx118a hx118b) ?_
 obtain ⟨x121,hx122,hz⟩:=Qb hz
 obtain ⟨a123,hx124,hz⟩:=Qb hz
 obtain ⟨d125,hd120,hz⟩:=Qb hz
 refine Qs (Q8 2 1 hS rfl hcx1 rfl rfl (rb true:rep M11 _ _) rfl rfl (GCase.u4 (rr hcx1) (vu (k:=1) rfl rfl (GCase.p4 (rr hcx1)) (Lf (vp (k:=1) rfl rfl (GCase.p4 (rr hcx1)) hx122) (rb true:rep M11 _ _)) hx124)) hd120 ?_)
 intro cs120 w119 hb120 ha120 hs120 hS
 refine Qf (Qa ?_)
 exact ⟨M11,cs120,d125,hF115,hS,hb120,hT12_3,hT12_6,hz⟩
 replace hz:=Qo hz hc116
 refine Qt (Qa ?_)
 exact ⟨M11,cx1,x1,hF115,hS,hcx1,hT12_3,hT12_6,hz⟩
 rintro T107 w105 ⟨M106,cs108,d109,hx110,hS,hb108,hT107_3,hT107_6,hz⟩
 replace hb13:=Rep.mono hx110.1 hb13
 replace hE:=Qd hE hx110
 rw [qhy] at hz
 refine Qh <|Qi ?_
 have ha111:=(rr hb108)
 refine Qc (Zf Vc hT107_3 (hS.bvB 2 rfl) (Rep.len ha111)) ?_
 obtain ⟨d114,hd113,hz⟩:=Qb hz
 refine Qs (Q8 0 24 hS rfl hb13 hT107_6 rfl ha111 rfl rfl (Lf (rr hb13) ha111) hd113 ?_)
 intro cs113 w112 hb113 ha113 hs113 hS
 refine Q2 2 rfl ?_
 refine Qf (Qa ?_)
 cases hz
 exact Q4 (Zb (Qq (V7 (j:=0) rfl hT107_6 rfl rfl (by rw [Rep.len hb113];exact Vc) hS rfl (Zk (Ql (Ql (Ql hS))) hE ⟨_,_,rfl,hb113,(Z5 _)⟩))))
 replace hz:=Qo hz hc104
 refine Qh <|Qi <|Qc (Yd rfl rfl) <|Qc (Qj (.bool (x3.kind==5)) rfl) ?_
 refine Qf (Qa ?_)
 refine Qr rfl (fun hc126 => ?_) (fun hc126 => ?_)
 replace hz:=Qn hz hc126
 refine Qh <|Qh <|Qi <|Qc (Qp V9 hT12_5) ?_
 obtain ⟨v127,ev127,hv127⟩:=(Vh (rr hcx3))
 refine Qc (Qm v127 Z4 rfl (hS.bvB 1 rfl) ev127) ?_
 obtain ⟨a128,c128,hv128,_⟩:=Q3 hv127
 refine Qc (Zj Qu (Vv hv128 rfl)) <|Qc (Qe (.int .i64 0) rfl) ?_
 refine Qf (Qa ?_)
 refine Qv ?_
 refine Zw (fun k136 T' w' => ∃ M130 cs132 d133 y134,Mm.ext w.heap.size noX M11 M130∧St w noX M130 [.box b9 cs13 49,.box b7 cx3 118,.box b5 cs132 49] w'∧rep M130 cs132 d133∧T' 3 = .pointer (some ⟨b5,0,none⟩)∧T' 5 = .pointer (some ⟨b7,0,none⟩)∧T' 6 = .pointer (some ⟨b9,0,none⟩)∧T' 96=v127∧T' 97 = .int .i64 (x3.at_.length:Int)∧T' 98 = .int .i64 y134∧qbb x3 k136 d133 y134=some r) fu ?_ ?_ ?_
 exact ⟨M11,cx1,x1,(0:Int),(Qg _ _ _),hS,hcx1,hT12_3,hT12_5,hT12_6,rfl,rfl,rfl,hz⟩
 rintro T' w' ⟨_,_,_,_,_,_,_,_,_,_,_,_,_,hz⟩
 rw [qbb] at hz
 cases hz
 intro k136
 rintro T131 w129 ⟨M130,cs132,d133,y134,hx138,hS,hb132,hT131_3,hT131_5,hT131_6,hT131_96,hT131_97,hT131_98,hz⟩
 replace hcx3:=Rep.mono hx138.1 hcx3
 replace hb13:=Rep.mono hx138.1 hb13
 replace hv127:=Qz hx138.1 hv127
 replace hE:=Qd hE hx138
 have hF137:=hx138
 rw [qbb] at hz
 obtain ⟨rec135,hrec135⟩ : ∃ f,f=qbb x3 k136:=⟨_,rfl⟩
 rw [← hrec135] at hz
 refine Qh <|Qi <|Qc (Zv hT131_98 hT131_97) ?_
 refine Qf (Qa ?_)
 refine Qh ?_
 refine Qr rfl (fun hc139 => ?_) (fun hc139 => ?_)
 replace hz:=Qn hz hc139
 refine Qt (Qa ?_)
 refine Q0 (fun T' w' => ∃ M141 cs143 d144,Mm.ext w.heap.size noX M130 M141∧St w noX M141 [.box b9 cs13 49,.box b7 cx3 118,.box b5 cs143 49] w'∧rep M141 cs143 d144∧T' 3 = .pointer (some ⟨b5,0,none⟩)∧T' 5 = .pointer (some ⟨b7,0,none⟩)∧T' 6 = .pointer (some ⟨b9,0,none⟩)∧T' 96=v127∧T' 97 = .int .i64 (x3.at_.length:Int)∧T' 98 = .int .i64 y134∧qeu y134 rec135 d144=some r) ?_ ?_
 have hF146:=Qg w.heap.size noX M130
 refine Qv <|Qh <|Qi <|Qc (Qe (.int .i64 y134) hT131_98) ?_
 obtain ⟨x148,hx147,hz⟩:=Qb hz
 obtain ⟨b147,o147,c147,p147,hv147,hi147,hj147,hM147,hr147⟩:=Yf hv127 hx147
 replace hr147:rep _ (sl p147 (o147+Int.toNat y134*1) 1) x148:=hr147
 refine Qc (Ys V2 hT131_96 hv147 hT131_98 hi147 hj147) <|Qc (Qm (.int .i64 x148) Yb rfl (hS.bvM hM147) hr147) <|Q2 2 rfl ?_
 refine Qf (Qa ?_)
 refine Q0 (fun T' w' => ∃ M150 c152,Mm.ext w.heap.size noX M130 M150∧St w noX M150 [.box b9 cs13 49,.box b7 cx3 118,.box b5 cs132 49] w'∧T' 3 = .pointer (some ⟨b5,0,none⟩)∧T' 5 = .pointer (some ⟨b7,0,none⟩)∧T' 6 = .pointer (some ⟨b9,0,none⟩)∧T' 10 = .int .i64 y134∧T' 11 = .int .i64 x148∧T' 96=v127∧T' 97 = .int .i64 (x3.at_.length:Int)∧T' 98 = .int .i64 y134∧T' 131 = .bool c152∧qc9 x3 d133 y134 rec135 x148 c152=some r) ?_ ?_
 have hF181:=Qg w.heap.size noX M130
 refine Yu [.box b7 cx3 118,.box b5 cs132 49] [] Ya hS fun w182 hS hG183 hR184=>wy 0 rfl (Qp Jm hT131_3) (fun _=>hR184) <|Y8 1 rfl (Qm (.bool d133.fixed) Jl rfl (Yp 1 rfl) (Kh (rr hb132))) hR184 <|wy 2 rfl (Qe (.bool d133.fixed) rfl) (fun _=>hR184) ?_
 rcases ic hz with ⟨hc185,hz⟩ | ⟨hc185,hz⟩<;>rw [hc185]
 refine V4 3 rfl rfl rfl (Qe (.int .i64 x148) rfl) (fun _=>hR184) <|V4 4 rfl rfl rfl (Qp V3 hT131_3) (fun _=>hR184) ?_
 obtain ⟨v186,ev186,hv186⟩:=(Y9 (rr hb132))
 refine K6 5 rfl rfl rfl (Qm v186 Vp rfl (Yp 1 rfl) ev186) hR184 ?_
 obtain ⟨a187,c187,hv187,_⟩:=Q3 hv186
 refine V4 6 rfl rfl rfl (Zj Z7 (Vv hv187 rfl)) (fun _=>hR184) <|V4 7 rfl rfl rfl (Zv rfl rfl) (fun _=>hR184) <|wy 8 rfl (Zy (.bool (decide (x148<(d133.ops.length:Int)))) rfl rfl) (fun _=>hR184) <|wy 9 rfl (Qe (.bool (decide (x148<(d133.ops.length:Int)))) rfl) (fun _=>hR184) ?_
 rcases ic hz with ⟨hc188,hz⟩ | ⟨hc188,hz⟩<;>rw [hc188]
 refine V4 10 rfl rfl rfl (Qp V3 hT131_3) (fun _=>hR184) ?_
 obtain ⟨v189,ev189,hv189⟩:=(Y9 (rr hb132))
 refine K6 11 rfl rfl rfl (Qm v189 Vp rfl (Yp 1 rfl) ev189) hR184 <|V4 12 rfl rfl rfl (Qe (.int .i64 x148) rfl) (fun _=>hR184) ?_
 obtain ⟨x191,hx190,hz⟩:=Qb hz
 obtain ⟨b190,o190,c190,p190,hv190,hi190,hj190,hM190,hr190⟩:=Yf hv189 hx190
 replace hr190:rep _ (sl p190 (o190+Int.toNat x148*3) 3) x191:=hr190
 refine V4 13 rfl rfl rfl (Ys q9d rfl hv190 rfl hi190 hj190) (fun _=>hR184) <|V4 14 rfl rfl rfl (Qp qoq rfl) (fun _=>hR184) <|K6 15 rfl rfl rfl (Qm (.int .i64 x191.key) Yb rfl (q9q hM190) (GOp.p1 hr190)) hR184 <|V4 17 rfl rfl rfl (Qp V8 hT131_5) (fun _=>hR184) <|K6 18 rfl rfl rfl (Qm (.int .i64 x3.node) Yb rfl (Yp 0 rfl) (Vg (rr hcx3))) hR184 ?_
 obtain ⟨r194,hr193,hz⟩:=Qb hz
 replace hr193:=Option.some.inj hr193
 refine w1g 16 rfl rfl rfl (Z6 (vs:=[.int .i64 x191.key]) (v := .int .i64 r194) zba (Zu rfl) hS (hr193 ▸ (qwc)) ?_)
 intro w192 hS
 refine Yq hS hG183 fun hR195 => ?_
 obtain ⟨r198,hr197,hz⟩:=Qb hz
 replace hr197:=Option.some.inj hr197
 refine w1g 19 rfl rfl rfl (Z6 (vs:=[.int .i64 x3.node]) (v := .int .i64 r198) q8v (Zu rfl) hS (hr197 ▸ (q82)) ?_)
 intro w196 hS
 refine Yq hS hG183 fun hR199=>V4 20 rfl rfl rfl (Yd rfl rfl) (fun _=>hR199) <|wy 21 rfl (Zy (.bool (r194==r198)) rfl rfl) (fun _=>hR199) <|wy 22 rfl (Qe (.bool (r194==r198)) rfl) (fun _=>hR199) ?_
 rcases ic hz with ⟨hc200,hz⟩ | ⟨hc200,hz⟩<;>rw [hc200]
 refine V4 23 rfl rfl rfl (Qe (.int .i64 x148) rfl) (fun _=>hR199) <|V4 24 rfl rfl rfl (Qp qxq hT131_3) (fun _=>hR199) ?_
 obtain ⟨u201,hx202,hz⟩:=Qb hz
 obtain ⟨hx202a,hx202b⟩:=Qw hx202
 refine V4 25 rfl rfl rfl (Ze q9g rfl rfl hx202a hx202b) (fun _=>hR199) ?_
 obtain ⟨x203,hx204,hz⟩:=Qb hz
 refine K6 26 rfl rfl rfl (Qm (.bool x203) Jl rfl (Yp 1 rfl) (vp (k:=1) rfl rfl (GCase.p6 (rr hb132)) hx204)) hR199 <|V4 27 rfl rfl rfl (Ye rfl) (fun _=>hR199) <|wy 28 rfl (Zy (.bool (!x203)) rfl rfl) (fun _=>hR199) ?_
 refine wd (Qa ?_)
 exact ⟨M130,(!x203),hF181,hS,hT131_3,hT131_5,hT131_6,rfl,rfl,hT131_96,hT131_97,hT131_98,rfl,hz⟩
 refine Yj 23 (j:=22) rfl rfl rfl rfl (fun _=>hR199) <|Yj 24 (j:=22) rfl rfl rfl rfl (fun _=>hR199) <|Yj 25 (j:=22) rfl rfl rfl rfl (fun _=>hR199) <|Yj 26 (j:=22) rfl rfl rfl rfl (fun _=>hR199) <|Yj 27 (j:=22) rfl rfl rfl rfl (fun _=>hR199) <|wy 28 rfl (Zi (.bool false) rfl rfl) (fun _=>hR199) ?_
 refine wd (Qa ?_)
 exact ⟨M130,false,hF181,hS,hT131_3,hT131_5,hT131_6,rfl,rfl,hT131_96,hT131_97,hT131_98,rfl,hz⟩
 refine Yj 10 (j:=9) rfl rfl rfl rfl (fun _=>hR184) <|Yj 11 (j:=9) rfl rfl rfl rfl (fun _=>hR184) <|Yj 12 (j:=9) rfl rfl rfl rfl (fun _=>hR184) <|Yj 13 (j:=9) rfl rfl rfl rfl (fun _=>hR184) <|Yj 14 (j:=9) rfl rfl rfl rfl (fun _=>hR184) <|Yj 15 (j:=9) rfl rfl rfl rfl (fun _=>hR184) <|Yj 16 (j:=9) rfl rfl rfl rfl (fun _=>hR184) <|Yj 17 (j:=9) rfl rfl rfl rfl (fun _=>hR184) <|Yj 18 (j:=9) rfl rfl rfl rfl (fun _=>hR184) <|Yj 19 (j:=9) rfl rfl rfl rfl (fun _=>hR184) <|Yj 20 (j:=9) rfl rfl rfl rfl (fun _=>hR184) <|wy 21 rfl (Zi (.bool false) rfl rfl) (fun _=>hR184) <|wy 22 rfl (Qe (.bool false) rfl) (fun _=>hR184) <|Yj 23 (j:=22) rfl rfl rfl rfl (fun _=>hR184) <|Yj 24 (j:=22) rfl rfl rfl rfl (fun _=>hR184) <|Yj 25 (j:=22) rfl rfl rfl rfl (fun _=>hR184) <|Yj 26 (j:=22) rfl rfl rfl rfl (fun _=>hR184) <|Yj 27 (j:=22) rfl rfl rfl rfl (fun _=>hR184) <|wy 28 rfl (Zi (.bool false) rfl rfl) (fun _=>hR184) ?_
 refine wd (Qa ?_)
 exact ⟨M130,false,hF181,hS,hT131_3,hT131_5,hT131_6,rfl,rfl,hT131_96,hT131_97,hT131_98,rfl,hz⟩
 refine Yj 3 (j:=2) rfl rfl rfl rfl (fun _=>hR184) <|Yj 4 (j:=2) rfl rfl rfl rfl (fun _=>hR184) <|Yj 5 (j:=2) rfl rfl rfl rfl (fun _=>hR184) <|Yj 6 (j:=2) rfl rfl rfl rfl (fun _=>hR184) <|Yj 7 (j:=2) rfl rfl rfl rfl (fun _=>hR184) <|wy 8 rfl (Zi (.bool false) rfl rfl) (fun _=>hR184) <|wy 9 rfl (Qe (.bool false) rfl) (fun _=>hR184) <|Yj 10 (j:=9) rfl rfl rfl rfl (fun _=>hR184) <|Yj 11 (j:=9) rfl rfl rfl rfl (fun _=>hR184) <|Yj 12 (j:=9) rfl rfl rfl rfl (fun _=>hR184) <|Yj 13 (j:=9) rfl rfl rfl rfl (fun _=>hR184) <|Yj 14 (j:=9) rfl rfl rfl rfl (fun _=>hR184) <|Yj 15 (j:=9) rfl rfl rfl rfl (fun _=>hR184) <|Yj 16 (j:=9) rfl rfl rfl rfl (fun _=>hR184) <|Yj 17 (j:=9) rfl rfl rfl rfl (fun _=>hR184) <|Yj 18 (j:=9) rfl rfl rfl rfl (fun _=>hR184) <|Yj 19 (j:=9) rfl rfl rfl rfl (fun _=>hR184) <|Yj 20 (j:=9) rfl rfl rfl rfl (fun _=>hR184) <|wy 21 rfl (Zi (.bool false) rfl rfl) (fun _=>hR184) <|wy 22 rfl (Qe (.bool false) rfl) (fun _=>hR184) <|Yj 23 (j:=22) rfl rfl rfl rfl (fun _=>hR184) <|Yj 24 (j:=22) rfl rfl rfl rfl (fun _=>hR184) <|Yj 25 (j:=22) rfl rfl rfl rfl (fun _=>hR184) <|Yj 26 (j:=22) rfl rfl rfl rfl (fun _=>hR184) <|Yj 27 (j:=22) rfl rfl rfl rfl (fun _=>hR184) <|wy 28 rfl (Zi (.bool false) rfl rfl) (fun _=>hR184) ?_
 refine wd (Qa ?_)
 exact ⟨M130,false,hF181,hS,hT131_3,hT131_5,hT131_6,rfl,rfl,hT131_96,hT131_97,hT131_98,rfl,hz⟩
 rintro T151 w149 ⟨M150,c152,hx153,hS,hT151_3,hT151_5,hT151_6,hT151_10,hT151_11,hT151_96,hT151_97,hT151_98,hT151_131,hz⟩
 replace hcx3:=Rep.mono hx153.1 hcx3
 replace hb132:=Rep.mono hx153.1 hb132
 replace hF146:=Qd hF146 hx153
 rw [qc9] at hz
 refine Qr hT151_131 (fun hc154 => ?_) (fun hc154 => ?_)
 replace hz:=Qn hz hc154
 refine Yu [.box b7 cx3 118] [] Ya hS fun w155 hS hG156 hR157=>wy 0 rfl (Qe (.int .i64 x148) hT151_11) (fun _=>hR157) <|wy 1 rfl (Qe (.int .i64 x148) hT151_11) (fun _=>hR157) <|wy 2 rfl (Qp Ka hT151_5) (fun _=>hR157) ?_
 obtain ⟨v158,ev158,hv158⟩:=(Vi (rr hcx3))
 refine Y8 3 rfl (Qm v158 Z4 rfl (Yp 0 rfl) ev158) hR157 <|wy 4 rfl (Qe (.int .i64 y134) hT151_10) (fun _=>hR157) ?_
 obtain ⟨x160,hx159,hz⟩:=Qb hz
 obtain ⟨b159,o159,c159,p159,hv159,hi159,hj159,hM159,hr159⟩:=Yf hv158 hx159
 replace hr159:rep _ (sl p159 (o159+Int.toNat y134*1) 1) x160:=hr159
 refine wy 5 rfl (Ys V2 rfl hv159 rfl hi159 hj159) (fun _=>hR157) <|Y8 6 rfl (Qm (.int .i64 x160) Yb rfl (q9q hM159) hr159) hR157 <|wy 7 rfl (Qp qxq hT151_3) (fun _=>hR157) ?_
 obtain ⟨u161,hx162,hz⟩:=Qb hz
 obtain ⟨hx162a,hx162b⟩:=Qw hx162
 refine wy 8 rfl (Ze q9g rfl rfl hx162a hx162b) (fun _=>hR157) <|wy 10 rfl (Qp q04 hT151_3) (fun _=>hR157) ?_
 obtain ⟨x165,hx166,hz⟩:=Qb hz
 obtain ⟨a167,hx168,hz⟩:=Qb hz
 obtain ⟨d169,hd164,hz⟩:=Qb hz
 refine w1 9 rfl (Q8 2 1 hS rfl hb132 rfl rfl (rb true:rep M150 _ _) rfl rfl (GCase.u6 (rr hb132) (vu (k:=1) rfl rfl (GCase.p6 (rr hb132)) (Lf (vp (k:=1) rfl rfl (GCase.p6 (rr hb132)) hx166) (rb true:rep M150 _ _)) hx168)) hd164 ?_)
 intro cs164 w163 hb164 ha164 hs164 hS
 refine Yq hS hG156 fun hR170 => ?_
 obtain ⟨u171,hx172,hz⟩:=Qb hz
 obtain ⟨hx172a,hx172b⟩:=Qw hx172
 refine wy 11 rfl (Ze zaw rfl rfl hx172a hx172b) (fun _=>hR170) ?_
 obtain ⟨x175,hx176,hz⟩:=Qb hz
 obtain ⟨a177,hx178,hz⟩:=Qb hz
 obtain ⟨d179,hd174,hz⟩:=Qb hz
 refine w1 12 rfl (Q8 2 1 hS rfl hb164 rfl rfl (ri x160:rep M150 _ _) rfl rfl (GCase.u7 (rr hb164) (vu (k:=1) rfl rfl (GCase.p7 (rr hb164)) (Lf (vp (k:=1) rfl rfl (GCase.p7 (rr hb164)) hx176) (ri x160:rep M150 _ _)) hx178)) hd174 ?_)
 intro cs174 w173 hb174 ha174 hs174 hS
 refine Yq hS hG156 fun hR180 => ?_
 refine wd (Za ?_)
 refine (Qa ?_)
 exact ⟨M150,cs174,d179,hF146,hS,hb174,hT151_3,hT151_5,hT151_6,hT151_96,hT151_97,hT151_98,hz⟩
 replace hz:=Qo hz hc154
 refine Qt (Za ?_)
 refine (Qa ?_)
 exact ⟨M150,cs132,d133,hF146,hS,hb132,hT151_3,hT151_5,hT151_6,hT151_96,hT151_97,hT151_98,hz⟩
 rintro T142 w140 ⟨M141,cs143,d144,hx145,hS,hb143,hT142_3,hT142_5,hT142_6,hT142_96,hT142_97,hT142_98,hz⟩
 replace hF137:=Qd hF137 hx145
 rw [qeu] at hz
 refine Qi <|Qc (Zz hT142_98 rfl) <|Qc (Qe (.int .i64 (IntKind.wrap .i64 (y134+1))) rfl) ?_
 refine Qf (Qa ?_)
 exact ⟨M141,cs143,d144,(IntKind.wrap .i64 (y134+1)),hF137,hS,hb143,hT142_3,hT142_5,hT142_6,hT142_96,hT142_97,rfl,(by rw [← hrec135];exact hz)⟩
 replace hz:=Qo hz hc139
 refine Zq <|Qy <|Qy <|Zs ?_
 refine (Qa ?_)
 refine Qh <|Qi ?_
 have ha205:=(rr hb132)
 refine Qc (Zf Vc hT131_3 (hS.bvB 2 rfl) (Rep.len ha205)) ?_
 obtain ⟨d208,hd207,hz⟩:=Qb hz
 refine Qs (Q8 0 24 hS rfl hb13 hT131_6 rfl ha205 rfl rfl (Lf (rr hb13) ha205) hd207 ?_)
 intro cs207 w206 hb207 ha207 hs207 hS
 refine Q2 2 rfl ?_
 refine Qf (Qa ?_)
 cases hz
 exact Q4 (Zb (Qq (V7 (j:=0) rfl hT131_6 rfl rfl (by rw [Rep.len hb207];exact Vc) hS rfl (Zk (Ql (Ql (Ql hS))) hE ⟨_,_,rfl,hb207,(Z5 _)⟩))))
 replace hz:=Qo hz hc126
 refine Qt (Za ?_)
 refine (Qa ?_)
 refine Qh <|Qi ?_
 have ha209:=(rr hcx1)
 refine Qc (Zf Vc hT12_3 (hS.bvB 2 rfl) (Rep.len ha209)) ?_
 obtain ⟨d212,hd211,hz⟩:=Qb hz
 refine Qs (Q8 0 24 hS rfl hb13 hT12_6 rfl ha209 rfl rfl (Lf (rr hb13) ha209) hd211 ?_)
 intro cs211 w210 hb211 ha211 hs211 hS
 refine Q2 2 rfl ?_
 refine Qf (Qa ?_)
 cases hz
 exact Q4 (V7 (j:=0) rfl hT12_6 rfl rfl (by rw [Rep.len hb211];exact Vc) hS rfl (Zk (Ql (Ql (Ql hS))) hE ⟨_,_,rfl,hb211,(Z5 _)⟩))
end Go.Proofs.Yteilffoclpgijaa
namespace Go.Proofs.Yteilffoclpgijaa
set_option maxHeartbeats 4000000
set_option maxRecDepth 100000
open Go.RowKit
open Rep (rep)
set_option linter.unusedVariables false
abbrev Kk := @q7r
def qjs (x1:ByteArray) (x2:ByteArray):Option (ByteArray × Int) :=
 (cat x1 (strOfNums (([⟨IntKind.wrap .u8 (Int.fdiv (x2.size:Int) (2 ^ (min (Int.toNat 8) (IntKind.bits .i64))))⟩,⟨IntKind.wrap .u8 (x2.size:Int)⟩]:List Byt).map Byt.val))).bind fun s9 =>
 (cat s9 x2).bind fun s11 =>
 some (s11,0)
def qg5 (x1:ByteArray) (x2:ByteArray) (c18:Bool):Option (ByteArray × Int) :=
 (bif c18 then
 some (x1,1)
 else
 (bif decide ((IntKind.wrap .i64 ((IntKind.wrap .i64 ((x1.size:Int)+2))+(x2.size:Int)))>65536) then
 some (x1,5)
 else
 qjs x1 x2))
def qjt (fu:Nat) (x1:ByteArray) (x2:ByteArray):Option (ByteArray × Int) :=
 (bif decide ((x1.size:Int)>65536) then
 some (x1,2)
 else
 (bif decide ((x2.size:Int)<1) then
 qg5 x1 x2 true
 else
 qg5 x1 x2 (decide ((x2.size:Int)>400))))
theorem qq3 {M:Mm} {w:World} {x1:ByteArray} {x2:ByteArray} {fu:Nat} {r:ByteArray × Int} (hA:Agree M w)  (hz:qjt fu x1 x2=some r) :
    Calls Try.prog 83 #[.string x1,.string x2] w (qc1 w (.tuple #[.string r.1,.int .i64 r.2])):=by
 refine Zh Try.func83 rfl 43 rfl rfl (by kernel_rfl) fun T hT => ?_
 have hT_0:T 0 = .string x1:=hT 0
 have hT_1:T 1 = .string x2:=hT 1
 clear hT
 have hE:=Qg w.heap.size noX M
 have hS:St w noX M [] w:=Zx hA
 rw [qjt] at hz
 refine Qh <|Qi <|Q2 2 rfl ?_
 refine Qf (Qa ?_)
 refine Q0 (fun T' w' => ∃ M4,Mm.ext w.heap.size noX M M4∧St w noX M4 [] w'∧T' 0 = .string x1∧T' 1 = .string x2∧qjs x1 x2=some r) ?_ ?_
 have hF13:=Qg w.heap.size noX M
 refine Qv <|Qh <|Qi <|Qc (Qe (.string x1) hT_0) <|Qc (Kk Zd rfl) <|Qc (Yr rfl rfl) <|Qc (Qj (.bool (decide ((x1.size:Int)>65536))) rfl) ?_
 refine Qf (Qa ?_)
 refine Qr rfl (fun hc14 => ?_) (fun hc14 => ?_)
 replace hz:=Qn hz hc14
 refine Qh <|Qi <|Qc (Qe (.string x1) hT_0) <|Q2 2 rfl ?_
 refine Qf (Qa ?_)
 cases hz
 exact Q4 (Zb (Qq (qz9 rfl rfl rfl ⟨rfl,hS.kept⟩)))
 replace hz:=Qo hz hc14
 refine Q0 (fun T' w' => ∃ M16 c18,Mm.ext w.heap.size noX M M16∧St w noX M16 [] w'∧T' 0 = .string x1∧T' 1 = .string x2∧T' 11 = .bool c18∧qg5 x1 x2 c18=some r) ?_ ?_
 have hF22:=Qg w.heap.size noX M
 refine Qi <|Qc (Qe (.string x2) hT_1) <|Qc (Kk Zd rfl) <|Qc (Zv rfl rfl) <|Qc (Qe (.bool (decide ((x2.size:Int)<1))) rfl) ?_
 rcases ic hz with ⟨hc23,hz⟩ | ⟨hc23,hz⟩<;>rw [hc23]
 refine Q2 5 rfl ?_
 refine Qf (Qa ?_)
 exact ⟨M,true,hF22,hS,hT_0,hT_1,rfl,hz⟩
 refine Qk rfl rfl (Qe (.string x2) hT_1) <|Qk rfl rfl (Kk Zd rfl) <|Qk rfl rfl (Yr rfl rfl) <|Q2 2 rfl ?_
 refine Qf (Qa ?_)
 exact ⟨M,(decide ((x2.size:Int)>400)),hF22,hS,hT_0,hT_1,rfl,hz⟩
 rintro T17 w15 ⟨M16,c18,hx19,hS,hT17_0,hT17_1,hT17_11,hz⟩
 replace hF13:=Qd hF13 hx19
 rw [qg5] at hz
 refine Qr hT17_11 (fun hc20 => ?_) (fun hc20 => ?_)
 replace hz:=Qn hz hc20
 refine Qh <|Qi <|Qc (Qe (.string x1) hT17_0) <|Q2 2 rfl ?_
 refine Qf (Qa ?_)
 cases hz
 exact Q4 (Zb (Qq (qz9 rfl rfl rfl ⟨rfl,hS.kept⟩)))
 replace hz:=Qo hz hc20
 refine Qh <|Qi <|Qc (Qe (.string x1) hT17_0) <|Qc (Kk Zd rfl) <|Qc (Zz rfl rfl) <|Qc (Qe (.string x2) hT17_1) <|Qc (Kk Zd rfl) <|Qc (Zz rfl rfl) <|Qc (Yr rfl rfl) <|Qc (Qj (.bool (decide ((IntKind.wrap .i64 ((IntKind.wrap .i64 ((x1.size:Int)+2))+(x2.size:Int)))>65536))) rfl) ?_
 refine Qf (Qa ?_)
 refine Qr rfl (fun hc21 => ?_) (fun hc21 => ?_)
 replace hz:=Qn hz hc21
 refine Qh <|Qi <|Qc (Qe (.string x1) hT17_0) <|Q2 2 rfl ?_
 refine Qf (Qa ?_)
 cases hz
 exact Q4 (Zb (Qq (qz9 rfl rfl rfl ⟨rfl,hS.kept⟩)))
 replace hz:=Qo hz hc21
 refine Qt (Za ?_)
 refine (Qa ?_)
 exact ⟨M16,hF13,hS,hT17_0,hT17_1,hz⟩
 rintro T5 w3 ⟨M4,hx6,hS,hT5_0,hT5_1,hz⟩
 rw [qjs] at hz
 refine Qh <|Qi <|Qc (Qe (.string x1) hT5_0) <|Qc (Qe (.string x2) hT5_1) <|Qc (Kk Zd rfl) <|Qc (q7n rfl rfl (by decide)) <|Qc (Vn ⟨_,Zp⟩ Zm rfl) <|Qc (Qe (.string x2) hT5_1) <|Qc (Kk Zd rfl) <|Qc (Vn ⟨_,Zp⟩ Zm rfl) ?_
 refine Qs (Z0 (α := Byt) (l:=([⟨IntKind.wrap .u8 (Int.fdiv (x2.size:Int) (2 ^ (min (Int.toNat 8) (IntKind.bits .i64))))⟩,⟨IntKind.wrap .u8 (x2.size:Int)⟩]:List Byt)) [.int .u8 (IntKind.wrap .u8 (Int.fdiv (x2.size:Int) (2 ^ (min (Int.toNat 8) (IntKind.bits .i64))))),.int .u8 (IntKind.wrap .u8 (x2.size:Int))] qv6 (Ym rfl (Ym rfl Vb)) rfl rfl (by decide) (by decide) (by decide) hS (K3 (ru (IntKind.wrap .u8 (Int.fdiv (x2.size:Int) (2 ^ (min (Int.toNat 8) (IntKind.bits .i64))))):rep M4 _ _) (K3 (ru (IntKind.wrap .u8 (x2.size:Int)):rep M4 _ _) Jk)) ?_)
 intro v8 M8 w7 hx8 hv8 hS
 refine Qc (q7v hS.agree Try.underlying144 Zm Zd rfl hv8) ?_
 obtain ⟨s9,hx10,hz⟩:=Qb hz
 obtain ⟨hx10a,hx10⟩:=qxj hx10
 refine Qc ((hx10 ▸ q7o rfl rfl hx10a)) <|Qc (Qe (.string x2) hT5_1) ?_
 obtain ⟨s11,hx12,hz⟩:=Qb hz
 obtain ⟨hx12a,hx12⟩:=qxj hx12
 refine Qc ((hx12 ▸ q7o rfl rfl hx12a)) <|Q2 2 rfl ?_
 refine Qf (Qa ?_)
 cases hz
 exact Q4 (qz9 rfl rfl rfl ⟨rfl,hS.kept⟩)
def qg6 (l6:List ByteArray) (y8:Int):Option ((List ByteArray) × Int) :=
 some (l6,y8)
def qlo (x1:ByteArray) (l14:List ByteArray) (y16:Int) (rec17:(List ByteArray)→Int→Option ((List ByteArray) × Int)) (c22:Int) (c24:Int):Option ((List ByteArray) × Int) :=
 (qyr x1 (some (IntKind.wrap .i64 (y16+2))) (some (IntKind.wrap .i64 ((IntKind.wrap .i64 (y16+2))+(orI .i64 (IntKind.wrap .i64 ((IntKind.wrap .i64 c22)*2 ^ (min (Int.toNat 8) (IntKind.bits .i64)))) (IntKind.wrap .i64 c24)))))).bind fun s32 =>
 (q3k s32).bind fun _ =>
 (app l14 ([s32]:List ByteArray)).bind fun l38 =>
 rec17 l38 (IntKind.wrap .i64 (y16+(IntKind.wrap .i64 (2+(orI .i64 (IntKind.wrap .i64 ((IntKind.wrap .i64 c22)*2 ^ (min (Int.toNat 8) (IntKind.bits .i64)))) (IntKind.wrap .i64 c24))))))
def qg7 (x1:ByteArray) (l14:List ByteArray) (y16:Int) (rec17:(List ByteArray)→Int→Option ((List ByteArray) × Int)) (c22:Int) (c24:Int) (c43:Bool):Option ((List ByteArray) × Int) :=
 (bif c43 then
 qg6 l14 y16
 else
 qlo x1 l14 y16 rec17 c22 c24)
def qdj (x1:ByteArray):Nat→(List ByteArray)→Int→Option ((List ByteArray) × Int)
 | 0,_,_=>none
 | n+1,l14,y16 =>
 (bif decide ((IntKind.wrap .i64 (y16+2))≤(x1.size:Int)) then
 (q0j x1 y16).bind fun c22 =>
 (q0j x1 (IntKind.wrap .i64 (y16+1))).bind fun c24 =>
 (bif decide ((orI .i64 (IntKind.wrap .i64 ((IntKind.wrap .i64 c22)*2 ^ (min (Int.toNat 8) (IntKind.bits .i64)))) (IntKind.wrap .i64 c24))<1) then
 qg7 x1 l14 y16 (qdj x1 n) c22 c24 true
 else
 (bif decide ((orI .i64 (IntKind.wrap .i64 ((IntKind.wrap .i64 c22)*2 ^ (min (Int.toNat 8) (IntKind.bits .i64)))) (IntKind.wrap .i64 c24))>400) then
 qg7 x1 l14 y16 (qdj x1 n) c22 c24 true
 else
 qg7 x1 l14 y16 (qdj x1 n) c22 c24 (decide ((orI .i64 (IntKind.wrap .i64 ((IntKind.wrap .i64 c22)*2 ^ (min (Int.toNat 8) (IntKind.bits .i64)))) (IntKind.wrap .i64 c24))>(IntKind.wrap .i64 ((IntKind.wrap .i64 ((x1.size:Int)-y16))-2))))))
 else
 qg6 l14 y16)
def qsa (fu:Nat) (x1:ByteArray):Option ((List ByteArray) × Int) :=
 qdj x1 fu ([]:List ByteArray) 0
theorem q1r {M:Mm} {w:World} {x1:ByteArray} {fu:Nat} {r:(List ByteArray) × Int} (hA:Agree M w)  (hz:qsa fu x1=some r) :
    Calls Try.prog 73 #[.string x1] w (Gives M w (fun M' u => ∃ v0,u = .tuple #[v0,.int .i64 r.2]∧repL M' v0 r.1)):=by
 refine Zh Try.func73 rfl 55 rfl rfl (by kernel_rfl) fun T hT => ?_
 have hT_0:T 0 = .string x1:=hT 0
 clear hT
 have hE:=Qg w.heap.size noX M
 have hS:St w noX M [] w:=Zx hA
 rw [qsa] at hz
 refine Qh <|Qi <|Q2 2 rfl ?_
 refine Qf (Qa ?_)
 refine Qh <|Qi <|Qc (Qj ((.slice none 0 0)) rfl) ?_
 refine Qf (Qa ?_)
 refine Qh <|Qi <|Qc (Qj (.int .i64 0) rfl) ?_
 refine Qf (Qa ?_)
 replace hS:=hS.nilRow 9 1
 refine Q0 (fun T' w' => ∃ M4 v7 l6 y8,Mm.ext w.heap.size noX M M4∧St w noX M4 [.row v7 9 1] w'∧repL M4 v7 l6∧T' 4=v7∧T' 5 = .int .i64 y8∧qg6 l6 y8=some r) ?_ ?_
 have hF10:=Qg w.heap.size noX M
 refine Qv ?_
 refine Zw (fun k18 T' w' => ∃ M12 v15 l14 y16,Mm.ext w.heap.size noX M M12∧St w noX M12 [.row v15 9 1] w'∧repL M12 v15 l14∧T' 0 = .string x1∧T' 4=v15∧T' 5 = .int .i64 y16∧qdj x1 k18 l14 y16=some r) fu ?_ ?_ ?_
 exact ⟨M,(.slice none 0 0),([]:List ByteArray),(0:Int),(Qg _ _ _),hS,(Z5 _),hT_0,rfl,rfl,hz⟩
 rintro T' w' ⟨_,_,_,_,_,_,_,_,_,_,hz⟩
 rw [qdj] at hz
 cases hz
 intro k18
 rintro T13 w11 ⟨M12,v15,l14,y16,hx20,hS,hv15,hT13_0,hT13_4,hT13_5,hz⟩
 replace hF10:=Qd hF10 hx20
 have hF19:=hx20
 rw [qdj] at hz
 obtain ⟨rec17,hrec17⟩ : ∃ f,f=qdj x1 k18:=⟨_,rfl⟩
 rw [← hrec17] at hz
 refine Qh <|Qh <|Qi <|Qc (Qe (.int .i64 y16) hT13_5) <|Qc (Zz rfl rfl) <|Qc (Qe (.string x1) hT13_0) <|Qc (Kk Zd rfl) <|Qc (q93 rfl rfl) ?_
 refine Qf (Qa ?_)
 refine Qr rfl (fun hc21 => ?_) (fun hc21 => ?_)
 replace hz:=Qn hz hc21
 refine Qt (Qa ?_)
 refine Qv <|Qh <|qr0 Ya (by kernel_rfl) hS <|Yv (Qe (.string x1) hT13_0) <|Yv (Qe (.int .i64 y16) hT13_5) ?_
 obtain ⟨c22,hx23,hz⟩:=Qb hz
 refine Yv (q5n Zd rfl rfl hx23) <|Yv (Vn ⟨_,Zm⟩ Zp rfl) <|Yv (q7m rfl rfl (by decide)) <|Yv (Qe (.string x1) hT13_0) <|Yv (Qe (.int .i64 y16) hT13_5) <|Yv (Zz rfl rfl) ?_
 obtain ⟨c24,hx25,hz⟩:=Qb hz
 refine Yv (q5n Zd rfl rfl hx25) <|Yv (Vn ⟨_,Zm⟩ Zp rfl) <|Yv (Y_or rfl rfl) <|Yv (Qj (.int .i64 (orI .i64 (IntKind.wrap .i64 ((IntKind.wrap .i64 c22)*2 ^ (min (Int.toNat 8) (IntKind.bits .i64)))) (IntKind.wrap .i64 c24))) rfl) <|qxl ?_
 intro w26 hS
 refine (Qa ?_)
 refine Q0 (fun T' w' => ∃ M28,Mm.ext w.heap.size noX M12 M28∧St w noX M28 [.row v15 9 1] w'∧T' 0 = .string x1∧T' 4=v15∧T' 5 = .int .i64 y16∧T' 6 = .int .i64 (orI .i64 (IntKind.wrap .i64 ((IntKind.wrap .i64 c22)*2 ^ (min (Int.toNat 8) (IntKind.bits .i64)))) (IntKind.wrap .i64 c24))∧qlo x1 l14 y16 rec17 c22 c24=some r) ?_ ?_
 have hF39:=Qg w.heap.size noX M12
 refine Q0 (fun T' w' => ∃ M41 c43,Mm.ext w.heap.size noX M12 M41∧St w noX M41 [.row v15 9 1] w'∧T' 0 = .string x1∧T' 4=v15∧T' 5 = .int .i64 y16∧T' 6 = .int .i64 (orI .i64 (IntKind.wrap .i64 ((IntKind.wrap .i64 c22)*2 ^ (min (Int.toNat 8) (IntKind.bits .i64)))) (IntKind.wrap .i64 c24))∧T' 37 = .bool c43∧qg7 x1 l14 y16 rec17 c22 c24 c43=some r) ?_ ?_
 have hF46:=Qg w.heap.size noX M12
 refine Qi <|Qc (Qe (.int .i64 (orI .i64 (IntKind.wrap .i64 ((IntKind.wrap .i64 c22)*2 ^ (min (Int.toNat 8) (IntKind.bits .i64)))) (IntKind.wrap .i64 c24))) rfl) <|Qc (Zv rfl rfl) <|Qc (Qe (.bool (decide ((orI .i64 (IntKind.wrap .i64 ((IntKind.wrap .i64 c22)*2 ^ (min (Int.toNat 8) (IntKind.bits .i64)))) (IntKind.wrap .i64 c24))<1))) rfl) ?_
 rcases ic hz with ⟨hc47,hz⟩ | ⟨hc47,hz⟩<;>rw [hc47]
 refine Q2 12 rfl ?_
 refine Qf (Qa ?_)
 exact ⟨M12,true,hF46,hS,hT13_0,hT13_4,hT13_5,rfl,rfl,hz⟩
 refine Qk rfl rfl (Qe (.int .i64 (orI .i64 (IntKind.wrap .i64 ((IntKind.wrap .i64 c22)*2 ^ (min (Int.toNat 8) (IntKind.bits .i64)))) (IntKind.wrap .i64 c24))) rfl) <|Qk rfl rfl (Yr rfl rfl) <|Q2 2 rfl ?_
 rcases ic hz with ⟨hc48,hz⟩ | ⟨hc48,hz⟩<;>rw [hc48]
 refine Q2 8 rfl ?_
 refine Qf (Qa ?_)
 exact ⟨M12,true,hF46,hS,hT13_0,hT13_4,hT13_5,rfl,rfl,hz⟩
 refine Qk rfl rfl (Qe (.int .i64 (orI .i64 (IntKind.wrap .i64 ((IntKind.wrap .i64 c22)*2 ^ (min (Int.toNat 8) (IntKind.bits .i64)))) (IntKind.wrap .i64 c24))) rfl) <|Qk rfl rfl (Qe (.string x1) hT13_0) <|Qk rfl rfl (Kk Zd rfl) <|Qk rfl rfl (Qe (.int .i64 y16) hT13_5) <|Qk rfl rfl (Kg rfl rfl) <|Qk rfl rfl (Kg rfl rfl) <|Qk rfl rfl (Yr rfl rfl) <|Qc (Zi (.bool (decide ((orI .i64 (IntKind.wrap .i64 ((IntKind.wrap .i64 c22)*2 ^ (min (Int.toNat 8) (IntKind.bits .i64)))) (IntKind.wrap .i64 c24))>(IntKind.wrap .i64 ((IntKind.wrap .i64 ((x1.size:Int)-y16))-2))))) rfl rfl) ?_
 refine Qf (Qa ?_)
 exact ⟨M12,(decide ((orI .i64 (IntKind.wrap .i64 ((IntKind.wrap .i64 c22)*2 ^ (min (Int.toNat 8) (IntKind.bits .i64)))) (IntKind.wrap .i64 c24))>(IntKind.wrap .i64 ((IntKind.wrap .i64 ((x1.size:Int)-y16))-2)))),hF46,hS,hT13_0,hT13_4,hT13_5,rfl,rfl,hz⟩
 rintro T42 w40 ⟨M41,c43,hx44,hS,hT42_0,hT42_4,hT42_5,hT42_6,hT42_37,hz⟩
 replace hv15:=Qz hx44.1 hv15
 replace hF10:=Qd hF10 hx44
 replace hF39:=Qd hF39 hx44
 rw [qg7] at hz
 refine Qr hT42_37 (fun hc45 => ?_) (fun hc45 => ?_)
 replace hz:=Qn hz hc45
 refine Zq <|Qy <|q47 rfl <|Qy <|Zs ?_
 refine (Qa ?_)
 exact ⟨M41,v15,l14,y16,hF10,hS,hv15,hT42_4,hT42_5,hz⟩
 replace hz:=Qo hz hc45
 refine Qt (Qa ?_)
 exact ⟨M41,hF39,hS,hT42_0,hT42_4,hT42_5,hT42_6,hz⟩
 rintro T29 w27 ⟨M28,hx30,hS,hT29_0,hT29_4,hT29_5,hT29_6,hz⟩
 rw [qlo] at hz
 refine Qh <|Qi <|Qc (Qe (v15) hT29_4) <|Qc (Qe (.string x1) hT29_0) <|Qc (Qe (.int .i64 y16) hT29_5) <|Qc (Zz rfl rfl) <|Qc (Qe (.int .i64 y16) hT29_5) <|Qc (Zz rfl rfl) <|Qc (Qe (.int .i64 (orI .i64 (IntKind.wrap .i64 ((IntKind.wrap .i64 c22)*2 ^ (min (Int.toNat 8) (IntKind.bits .i64)))) (IntKind.wrap .i64 c24))) hT29_6) <|Qc (Zz rfl rfl) ?_
 obtain ⟨s32,hx31,hz⟩:=Qb hz
 obtain ⟨⟨pp31,qq31⟩,hc31,hx31⟩:=Option.map_eq_some_iff.1 hx31
 refine Qc ((hx31 ▸ qxg (l:=(some (IntKind.wrap .i64 (y16+2)))) (h:=(some (IntKind.wrap .i64 ((IntKind.wrap .i64 (y16+2))+(orI .i64 (IntKind.wrap .i64 ((IntKind.wrap .i64 c22)*2 ^ (min (Int.toNat 8) (IntKind.bits .i64)))) (IntKind.wrap .i64 c24)))))) Zd rfl (evs rfl) (evs rfl) hc31)) ?_
 obtain ⟨_,hx34,hz⟩:=Qb hz
 have hx34:=Ke hx34
 refine Qs (Z0 (α := ByteArray) (l:=([s32]:List ByteArray)) [.string s32] tl72 (Ym rfl Vb) rfl rfl (by decide) (by decide) (by decide) hS (K3 (Vw hx34:rep M28 [Value.string s32] s32) Jk) ?_)
 intro v35 M35 w33 hx35 hv35 hS
 replace hv15:=Qz (hx30.1.trans hx35.1) hv15
 obtain ⟨l38,hr37,hz⟩:=Qb hz
 obtain ⟨hy37,hs37⟩:=Z1 hr37
 refine Qs (Y7 (α := ByteArray) (j:=0) q8p hS rfl rfl rfl hv15 hv35 hy37 ?_)
 intro v37 M37 w36 hx37 hv37 hS
 rw [← hs37] at hv37
 clear hr37 hs37
 replace hF19:=Qd hF19 (hx30.trans (hx35.trans hx37))
 refine Qc (Qj (v37) rfl) ?_
 refine Qf (Qa ?_)
 refine Qi <|Qc (Qe (.int .i64 y16) hT29_5) <|Qc (Qe (.int .i64 (orI .i64 (IntKind.wrap .i64 ((IntKind.wrap .i64 c22)*2 ^ (min (Int.toNat 8) (IntKind.bits .i64)))) (IntKind.wrap .i64 c24))) hT29_6) <|Qc (Zz rfl rfl) <|Qc (Zz rfl rfl) <|Qc (Qj (.int .i64 (IntKind.wrap .i64 (y16+(IntKind.wrap .i64 (2+(orI .i64 (IntKind.wrap .i64 ((IntKind.wrap .i64 c22)*2 ^ (min (Int.toNat 8) (IntKind.bits .i64)))) (IntKind.wrap .i64 c24))))))) rfl) ?_
 refine Qf (Za ?_)
 refine (Qa ?_)
 exact ⟨M37,v37,l38,(IntKind.wrap .i64 (y16+(IntKind.wrap .i64 (2+(orI .i64 (IntKind.wrap .i64 ((IntKind.wrap .i64 c22)*2 ^ (min (Int.toNat 8) (IntKind.bits .i64)))) (IntKind.wrap .i64 c24)))))),hF19,hS,hv37,hT29_0,rfl,rfl,(by rw [← hrec17];exact hz)⟩
 replace hz:=Qo hz hc21
 refine Zq <|Qy <|Qy <|Zs ?_
 refine (Qa ?_)
 exact ⟨M12,v15,l14,y16,hF10,hS,hv15,hT13_4,hT13_5,hz⟩
 rintro T5 w3 ⟨M4,v7,l6,y8,hx9,hS,hv7,hT5_4,hT5_5,hz⟩
 replace hE:=Qd hE hx9
 rw [qg6] at hz
 refine Qh <|Qi <|Qc (Qe (v7) hT5_4) <|Qc (Qe (.int .i64 y8) hT5_5) <|Q2 2 rfl ?_
 refine Qf (Qa ?_)
 cases hz
 exact Q4 (qz9 rfl rfl rfl (Zk (Ql hS) hE ⟨_,rfl,hv7⟩))
def qo6 (fu:Nat) (x1:ByteArray) (x2:ByteArray) (x3:Int):Option ByteArray :=
 (qjt fu x1 x2).bind fun r6 =>
 (bif r6.2 != 0 then
 some x1
 else
 (qyr r6.1 none (some (IntKind.wrap .i64 ((x1.size:Int)+(max 0 (min x3 (IntKind.wrap .i64 ((r6.1.size:Int)-(x1.size:Int))))))))).bind fun s9 =>
 some s9)
theorem q1s {M:Mm} {w:World} {x1:ByteArray} {x2:ByteArray} {x3:Int} {fu:Nat} {r:ByteArray} (hA:Agree M w)  (hz:qo6 fu x1 x2 x3=some r) :
    Calls Try.prog 82 #[.string x1,.string x2,.int .i64 x3] w (qc1 w (.string r)):=by
 refine Zh Try.func82 rfl 31 rfl rfl (by kernel_rfl) fun T hT => ?_
 have hT_0:T 0 = .string x1:=hT 0
 have hT_1:T 1 = .string x2:=hT 1
 have hT_2:T 2 = .int .i64 x3:=hT 2
 clear hT
 have hE:=Qg w.heap.size noX M
 have hS:St w noX M [] w:=Zx hA
 rw [qo6] at hz
 refine Qh <|Qi <|Qc (Qj (.string (⟨#[]⟩:ByteArray)) rfl) ?_
 refine Qf (Qa ?_)
 refine Qh <|Qi <|Qc (Qe (.string x1) hT_0) <|Qc (Qe (.string x2) hT_1) ?_
 obtain ⟨r6,hr5,hz⟩:=Qb hz
 refine Qs (Z6 (vs:=[.string x1,.string x2]) (v := .tuple #[.string r6.1,.int .i64 r6.2]) cb83 (Z8 rfl rfl) hS (qq3 hS.agree hr5) ?_)
 intro w4 hS
 refine Qc (Qe (.tuple #[.string r6.1,.int .i64 r6.2]) rfl) <|Qc (Q7 (v := .string r6.1) rfl rfl) <|Qc (Q7 (v := .int .i64 r6.2) rfl rfl) <|Q2 2 rfl ?_
 refine Qf (Qa ?_)
 refine Qh <|Qh <|Qi <|Qc (Qe (.int .i64 r6.2) rfl) <|Qc (Yl rfl rfl) ?_
 refine Qf (Qa ?_)
 refine Qr rfl (fun hc7 => ?_) (fun hc7 => ?_)
 replace hz:=Qn hz hc7
 refine Qh <|Qi <|Qc (Qe (.string x1) hT_0) <|Qc (Qj (.string x1) rfl) ?_
 refine Qf (Qa ?_)
 cases hz
 exact Q4 (Qq (Yg rfl rfl ⟨rfl,hS.kept⟩))
 replace hz:=Qo hz hc7
 refine Qt (Qa ?_)
 refine Qh <|Qi <|Qc (Qe (.string r6.1) rfl) <|Qc (Qe (.string x1) hT_0) <|Qc (Kk Zd rfl) <|Qc (Qe (.int .i64 x3) hT_2) <|Qc (Qe (.string r6.1) rfl) <|Qc (Kk Zd rfl) <|Qc (Qe (.string x1) hT_0) <|Qc (Kk Zd rfl) <|Qc (Kg rfl rfl) <|Qc (q3o rfl rfl) <|Qc (zab rfl rfl) <|Qc (Zz rfl rfl) ?_
 obtain ⟨s9,hx8,hz⟩:=Qb hz
 obtain ⟨⟨pp8,qq8⟩,hc8,hx8⟩:=Option.map_eq_some_iff.1 hx8
 refine Qc ((hx8 ▸ qxg (l:=none) (h:=(some (IntKind.wrap .i64 ((x1.size:Int)+(max 0 (min x3 (IntKind.wrap .i64 ((r6.1.size:Int)-(x1.size:Int))))))))) Zd rfl evn (evs rfl) hc8)) <|Qc (Qj (.string s9) rfl) ?_
 refine Qf (Qa ?_)
 cases hz
 exact Q4 (Yg rfl rfl ⟨rfl,hS.kept⟩)
end Go.Proofs.Yteilffoclpgijaa
namespace Go.Proofs.Yteilffoclpgijaa
open Go.RowKit
open Rep (rep)
section
variable {P:Program} {n:Nat} {Q:Exit→Tm→World→Prop} {T:Tm} {w w0:World} {X:Nat→Prop} {M:Mm} {H:List Ent} {K:Tm→World→Prop} {dst:Option Tmp} {ty:TypeId} {pos:String} {af:Array Edge} {g:Option (Nat × Bool)}
theorem q4f {v:Value} {e:TypeId} {xs:List Value} {l:List ByteArray} (hA:Agree M w) (hs:q7l M w v e 1 xs) (hk:skr M v xs l) : ∃ M1,Agree M1 w∧repL M1 v l:=by
 obtain ⟨⟨n,hxl,⟨rfl,rfl⟩ | ⟨b,cap,cur,rfl,_,hh,hnc,hcm,hcs,htake⟩⟩,hM⟩:=hs
 ·obtain ⟨⟨a,cap,hv,hc⟩,_⟩:=hk
  simp only [Value.slice.injEq] at hv
  have:l=[]:=List.length_eq_zero_iff.1 hv.2.1.symm
  subst this
  exact ⟨M,hA,qk3 M⟩
 ·obtain ⟨⟨a,cap',hv,hc⟩,hb,hl,hr⟩:=hk
  simp only [Value.slice.injEq] at hv
  obtain ⟨rfl,rfl,rfl⟩:=hv
  refine ⟨M.put b xs,fun c p hc => ?_,some ⟨b,0,none⟩,cap,rfl,hnc,(fun h=>by cases h),hb,fun i x hx => ?_⟩
  ·by_cases hcb:c=b
   ·subst hcb
    rw [Mm.put_same] at hc
    cases hc
    exact ⟨cur,e,(0,0),hh,by rw [← htake];exact List.take_prefix _ _⟩
   ·rw [Mm.put_other _ _ hcb] at hc
    exact hA c p hc
  ·have hi:=(List.getElem?_eq_some_iff.1 hx).1
   have hl:xs.length=l.length*1:=hl
   refine ⟨b,0,xs,rfl,Mm.put_same _ _ _,?_,?_⟩
   ·show 0+i*1+1≤xs.length
    omega
   ·rw [Nat.zero_add]
    exact hr i x hx
theorem qy7 {M1 M2:Mm} {v:Value} {l:List ByteArray} (h:repL M1 v l) (hM : ∀ b,v.ownBlock=some b→M2 b=M1 b):repL M2 v l:=by
 obtain ⟨a,cap,rfl,h1,h2,h3,h4⟩:=h
 refine ⟨a,cap,rfl,h1,h2,h3,fun i x hx => ?_⟩
 obtain ⟨b,off,p,rfl,hb,hle,hr⟩:=h4 i x hx
 exact ⟨b,off,p,rfl,(hM b rfl).trans hb,hle,hr⟩
theorem bvKS {j:Nat} {v:Value} {e:TypeId} {k:Nat} {xs:List Value} {b:Nat} (hj:H[j]? = some (.stk v e k xs)) (hb:v.ownBlock=some b):BV (St w0 X M H) b xs:=fun w h=>h.bvK hj hb w rfl
theorem St.fresh {M1:Mm} {u:Value} {e:TypeId} {k:Nat} {w':World} (hSt:St w0 X M H w) (hs:St w (qai []) M1 [.row u e k] w') :
  ∃ M2:Mm,(∀ b,u.ownBlock=some b→M2 b=M1 b)∧Mm.ext w0.heap.size X M M2∧St w0 X M2 (.row u e k::H) w':=by
 have hno : ∀ b,¬ qai [] b:=fun b ⟨e,he,_⟩=>by cases he
 have hkept:Kept w w':=⟨hs.os,hs.tape,hs.output,hs.size,fun k hk=>hs.frame k hk (hno k)⟩
 have hnew : ∀ b,u.ownBlock=some b→w.heap.size≤b:=fun b hb=>by
  rcases hs.mine _ List.mem_cons_self b hb with h | h
  ·exact absurd h (hno b)
  ·exact h
 have hlt : ∀ b p,M b=some p→b<w.heap.size:=fun b p hb=>hSt.agree.lt hb
 have e1 : ∀ b,b<w.heap.size→(fun b=>if b<w.heap.size then M b else M1 b) b=M b:=fun b hb=>if_pos hb
 have e2 : ∀ b,¬ b<w.heap.size→(fun b=>if b<w.heap.size then M b else M1 b) b=M1 b:=fun b hb=>if_neg hb
 refine ⟨fun b=>if b<w.heap.size then M b else M1 b,fun b hb=>e2 b (by have:=hnew b hb;omega),⟨fun b p hb=>⟨p,(e1 b (hlt b p hb)).trans hb,List.prefix_refl _⟩,fun b hb _=>e1 b (by have:=hSt.size;omega)⟩,?_⟩
 have hA:Agree (fun b=>if b<w.heap.size then M b else M1 b) w':=fun b p hb=>by
  by_cases h:b<w.heap.size
  ·have hb:M b=some p:=(e1 b h).symm.trans hb
   obtain ⟨cs,t,fr,h1,h2⟩:=hSt.agree b p hb
   exact ⟨cs,t,fr,(hkept.block b h).trans h1,h2⟩
  ·exact hs.agree b p ((e2 b h).symm.trans hb)
 have h:=hSt.call hkept (fun b hb=>e1 b hb) hA
 refine ⟨h.os,h.tape,h.output,h.size,h.frame,h.agree,fun f hf => ?_,fun f hf b hb => ?_,.cons (fun f hf b hb hb' => ?_) h.apart⟩
 ·rcases List.mem_cons.1 hf with rfl | hf
  ·obtain ⟨m,ys,hown,hM⟩:=hs.ents _ List.mem_cons_self
   exact ⟨m,ys,hown,fun c hc=>(e2 c (by have:=hnew c hc;omega)).trans (hM c hc)⟩
  ·exact h.ents f hf
 ·rcases List.mem_cons.1 hf with rfl | hf
  ·exact .inr (Nat.le_trans hSt.size (hnew b hb))
  ·exact h.mine f hf b hb
 ·have h1:=Ent.lt (hSt.ents f hf) hb'
  have h2:=hnew b hb
  omega
theorem q6o {f:FuncId} {args:List Operand} {ats:Array TypeId} {j:Nat} {v:Value} {e e2:TypeId} {xs:List Value} {l r:List ByteArray} (hcb:CB P f) (ha:args.map (evT T)=[v]) (hSt:St w0 X M H w) (hj:H[j]? = some (.stk v e 1 xs)) (hk:skr M v xs l)
  (hc : ∀ {M1:Mm},Agree M1 w→repL M1 v l→Calls P f #[v] w (qcv M1 w [] (fun M' u L' => ∃ v0,u=v0∧L'=[.row v0 e2 1]∧repL M' v0 r)))
  (k : ∀ u M2 w',Mm.ext w0.heap.size X M M2→repL M2 u r→St w0 X M2 (.row u e2 1::H) w'→K (qmg T dst u) w'):OW P n Q ⟨dst,.call ⟨.value (.func f),args.toArray,ats⟩,ty,pos,af,g⟩ T w K:=by
 obtain ⟨fn,c,hf,hname,hb⟩:=hcb
 obtain ⟨M1,hA1,h1⟩:=q4f hSt.agree (hSt.ents _ (List.mem_of_getElem? hj)) hk
 refine qs6 hf hname hb ha (hc hA1 h1) fun en w' ⟨u,M',L',he,hx,hs,v0,hu,hL,hr⟩ => ?_
 subst hu
 subst hL
 obtain ⟨M2,hM2,hext,hS2⟩:=hSt.fresh hs
 exact ⟨u,he,k u M2 w' hext (qy7 hr hM2) hS2⟩
theorem St.turnStk {j b m k:Nat} {v v':Value} {e:TypeId} {xs xs':List Value} {w':World} (hSt:St w0 X M H w) (hj:H[j]? = some (.stk v e k xs)) (hv:v.ownBlock=some b) (hv':v'.ownBlock=some b) (hos:w'.os=w.os) (htp:w'.tape=w.tape) (hout:w'.output=w.output)
  (hsz:w'.heap.size=w.heap.size) (ho : ∀ c,c≠b→w'.heap[c]? = w.heap[c]?) (hown:w'.ownsRow 0 e k v' m xs'):St w0 X M (H.set j (.stk v' e k xs')) w':=by
 have hF:=hSt.perm (qfs hj)
 have hapart:=List.pairwise_cons.1 hF.apart
 have hM:M b=none:=(hF.ents _ List.mem_cons_self).2 b hv
 have hmine:=hF.mine _ List.mem_cons_self b hv
 have hne : ∀ f∈H.eraseIdx j,∀ c,f.blk=some c→c≠b:=fun f hf c hc h=>by
  subst h
  exact hapart.1 f hf c hv hc
 have hnew:St w0 X M (.stk v' e k xs'::H.eraseIdx j) w':=by
  refine ⟨hos.trans hSt.os,htp.trans hSt.tape,hout.trans hSt.output,by rw [hsz];exact hSt.size,fun c hlt hno => ?_,fun c p hc => ?_,fun f hf => ?_,fun f hf c hc => ?_,?_⟩
  ·rw [ho c fun h=>by
    subst h
    rcases hmine with h | h
    ·exact hno h
    ·omega]
   exact hSt.frame c hlt hno
  ·rw [ho c fun h=>by subst h;rw [hM] at hc;cases hc]
   exact hSt.agree c p hc
  ·rcases List.mem_cons.1 hf with rfl | hf
   ·refine ⟨⟨m,hown⟩,fun c hc => ?_⟩
    rw [hv'] at hc
    cases hc
    exact hM
   ·exact Ent.kept (hF.ents f (List.mem_cons_of_mem _ hf)) fun c hc=>⟨ho c (hne f hf c hc),rfl⟩
  ·rcases List.mem_cons.1 hf with rfl | hf
   ·have hc:v'.ownBlock=some c:=hc
    rw [hv'] at hc
    cases hc
    exact hmine
   ·exact hF.mine f (List.mem_cons_of_mem _ hf) c hc
  ·refine .cons (fun f hf c hc hc' => ?_) hapart.2
   have hc:v'.ownBlock=some c:=hc
   rw [hv'] at hc
   cases hc
   exact hne f hf b hc' rfl
 exact hnew.perm (qgo _ hj)
end
def q7d {α : Type} (l:List α) (lo hi:Int):Option (List α):=if 0≤lo∧lo<hi∧hi≤l.length then some (l.take lo.toNat++l.drop hi.toNat) else none
theorem q1t {α : Type} {l r:List α} {lo hi:Int} (h:q7d l lo hi=some r):(0≤lo∧lo<hi∧hi≤l.length)∧r=l.take lo.toNat++l.drop hi.toNat:=by
 unfold q7d at h
 split at h
 ·rename_i hk
  simp only [Option.some.injEq] at h
  exact ⟨hk,h.symm⟩
 ·cases h
end Go.Proofs.Yteilffoclpgijaa
namespace Go.Proofs.Yteilffoclpgijaa
open Go.RowKit Go.Shelf Go.Sort
open Rep (rep)
def rhoD:Ren:=⟨fun _=>66,fun k=>match k with | 3=>3 | 4=>4 | 9=>9 | 24=>72 | _=>0,fun k=>k⟩
theorem qt0 {t:TypeId} {d:TypeDesc} (h:Try.prog.underlying t=some d) (hd:d.isRow=false) (w:World):(isAgg t).run Try.prog w = .ok false w:=by
 unfold isAgg
 rw [Sem.run_bind,run_underlying h w]
 cases d<;>simp_all [TypeDesc.isRow]
theorem qo7 {t:TypeId} {v:Value} (h:(Try.prog.info? t).bind (·.zero)=some v) (w:World):(zeroValue t).run Try.prog w = .ok v w:=by
 cases hi:Try.prog.info? t with
 | none=>rw [hi] at h;cases h
 | some i =>
  rw [hi] at h
  have h:i.zero=some v:=h
  simp [zeroValue,typeInfo,hi,Sem.run_bind,h]
theorem layD:Lays2.n24 Try.prog rhoD where
 mixed:=by kernel_rfl
 f24:=by kernel_rfl
 t0:=Try.underlying0
 a0:=fun w=>qt0 Try.underlying0 rfl w
 z0:=fun w=>qax (by kernel_rfl) w
 v0:=fun w=>qo7 (by kernel_rfl) w
 t3:=Try.underlying3
 a3:=fun w=>qt0 Try.underlying3 rfl w
 z3:=fun w=>qax (by kernel_rfl) w
 v3:=fun w=>qo7 (by kernel_rfl) w
 t4:=Try.underlying4
 a4:=fun w=>qt0 Try.underlying4 rfl w
 z4:=fun w=>qax (by kernel_rfl) w
 v4:=fun w=>qo7 (by kernel_rfl) w
 t9:=Try.underlying9
 a9:=fun w=>qt0 Try.underlying9 rfl w
 z9:=fun w=>qax (by kernel_rfl) w
 v9:=fun w=>qo7 (by kernel_rfl) w
 t24:=Try.underlying72
 a24:=fun w=>qt0 Try.underlying72 rfl w
 z24:=fun w=>qax (by kernel_rfl) w
 v24:=fun w=>qo7 (by kernel_rfl) w
 i9:=by kernel_rfl
def bts (s:ByteArray):List UInt8:=s.data.toList
section
variable {n:Nat} {Q:Exit→Tm→World→Prop} {T:Tm} {w w0:World} {X:Nat→Prop} {M:Mm} {H:List Ent} {K:Tm→World→Prop} {dst:Option Tmp} {ty:TypeId} {pos:String} {af:Array Edge} {g:Option (Nat × Bool)}
theorem q85 {args:List Operand} {ats:Array TypeId} {j:Nat} {v:Value} {e:TypeId} {xs:List Value} {l r:List ByteArray} {lo hi:Int} (hcb:CB Try.prog 66) (ha:args.map (evT T)=[v,.int .i64 lo,.int .i64 hi]) (hSt:St w0 X M H w)
  (hj:H[j]? = some (.stk v e 1 xs)) (hk:skr M v xs l) (hr:q7d l lo hi=some r) (k : ∀ v' xs' w',skr M v' xs' r→St w0 X M (H.set j (.stk v' e 1 xs')) w'→K (qmg T dst v') w') :
  OW Try.prog n Q ⟨dst,.call ⟨.value (.func 66),args.toArray,ats⟩,ty,pos,af,g⟩ T w K:=by
 obtain ⟨⟨h0,hlt,hhi⟩,hre⟩:=q1t hr
 obtain ⟨fn,c,hf,hname,hb⟩:=hcb
 obtain ⟨⟨m,hxl,⟨rfl,rfl⟩ | ⟨b,cap,cur,rfl,_,hh,hnc,hcm,hcs,htake⟩⟩,hM⟩:=hSt.ents _ (List.mem_of_getElem? hj)
 ·obtain ⟨⟨a,cap,hv,hc⟩,_⟩:=hk
  simp only [Value.slice.injEq] at hv
  omega
 obtain ⟨⟨a,cap',hv,hc⟩,hby,hl,hel⟩:=hk
 simp only [Value.slice.injEq] at hv
 obtain ⟨rfl,rfl,rfl⟩:=hv
 have hx : ∀ i (hi:i<l.length),cur[i]? = some (.string l[i]):=fun i hi=>by
  have h1:=(hel i l[i] (List.getElem?_eq_getElem hi)).1
  have h2:=qm3 h1
  have h3:xs[i]? = some (.string l[i]):=by
   have e:i*Rep.k ByteArray=i:=Nat.mul_one i
   rw [e] at h2
   exact h2
  rw [← htake,List.getElem?_take] at h3
  split at h3
  ·simpa using h3
  ·cases h3
 have hsmall : ∀ x∈l,x.size≤140737488351232:=fun x hxm=>by
  obtain ⟨i,hi⟩:=List.getElem?_of_mem hxm
  exact (hel i x hi).2
 have hst : ∀ s:ByteArray,encStr (bts s) = .string s:=fun s=>rfl
 have hH:Holds encStr w b 0 (l.map bts).toArray:=fun i hi=>by
  have hi:i<l.length:=by simpa using hi
  refine ⟨?_,by simp [World.frozen?,hh]⟩
  simp only [World.cell?,hh,Nat.zero_add]
  rw [hx i hi,getElem!_pos _ i (by simpa using hi)]
  simp [hst]
 have hd:=Any.slices_Delete_string layD b 0 cap lo.toNat hi.toNat (l.map bts) w hH (by simpa using hc) (by unfold maxLen at hcm;omega) (by omega) (by simp;omega)
 rw [List.length_map,Int.toNat_of_nonneg h0,Int.toNat_of_nonneg (by omega)] at hd
 refine qs6 hf hname hb ha hd fun en w' ⟨he,q,hw⟩ => ?_
 have hrl:r.length=l.length-(hi.toNat-lo.toNat):=by rw [hre];simp;omega
 have hnews : ∀ i (h:i<r.length),((l.map bts).take lo.toNat++(l.map bts).drop hi.toNat++List.replicate (hi.toNat-lo.toNat) []).toArray[i]! = bts r[i]:=fun i h=>by
  rw [← List.map_take,← List.map_drop,← List.map_append,← hre,getElem!_pos _ i (by simp;omega),List.getElem_toArray,List.getElem_append_left (by simpa using h),List.getElem_map]
 have hns:((l.map bts).take lo.toNat++(l.map bts).drop hi.toNat++List.replicate (hi.toNat-lo.toNat) []).toArray.size=l.length:=by simp;omega
 generalize hng:((l.map bts).take lo.toNat++(l.map bts).drop hi.toNat++List.replicate (hi.toNat-lo.toNat) []).toArray=news at hw hnews hns
 refine ⟨_,he,k _ (r.map Value.string) w' ⟨⟨_,cap,by rw [hrl],by omega⟩,?_,?_,fun i x hxi => ?_⟩ ?_⟩
 ·have:=Nat.mul_le_mul_right (Rep.bytes ByteArray) (show r.length≤l.length by omega)
  omega
 ·rw [List.length_map];exact (Nat.mul_one _).symm
 ·have hxm:x∈r:=List.mem_of_getElem? hxi
  have hxl:x∈l:=by
   rw [hre] at hxm
   rcases List.mem_append.1 hxm with h | h
   ·exact List.mem_of_mem_take h
   ·exact List.mem_of_mem_drop h
  refine ⟨?_,hsmall x hxl⟩
  have hi:=(List.getElem?_eq_some_iff.1 hxi).1
  show sl (r.map Value.string) (i*1) 1=[.string x]
  refine qkn fun p => ?_
  cases p with
  | zero=>rw [qe1 _ _ _ _ (by omega),Nat.add_zero,Nat.mul_one,List.getElem?_map,hxi];rfl
  | succ p=>rw [qbw _ _ _ _ (by omega)];rfl
 ·have hblk:w'.heap[b]? = some (.cells (putCells encStr 0 news cur) e (0,0)):=by
   rw [hw]
   show (w.heap.modify b _)[b]? = _
   rw [Array.getElem?_modify,if_pos rfl,hh]
   rfl
  refine hSt.turnStk (b:=b) (m:=r.length) hj rfl rfl (by rw [hw];rfl) (by rw [hw];rfl) (by rw [hw];rfl) (by rw [hw];simp [ahead]) (fun p hp => ?_) ⟨by simp,.inr ⟨b,cap,_,by rw [hrl],Nat.zero_le _,hblk,by omega,hcm,by simpa [putCells] using hcs,?_⟩⟩
  ·rw [hw]
   show (w.heap.modify b _)[p]? = _
   rw [Array.getElem?_modify,if_neg (fun h=>hp h.symm)]
  ·refine List.ext_getElem? fun i => ?_
   rw [List.getElem?_take,List.getElem?_map]
   by_cases hi:i<r.length
   ·rw [if_pos (by omega),Array.getElem?_toList,putCells,Array.getElem?_mapIdx,hx i (by omega),List.getElem?_eq_getElem hi]
    simp only [Option.map_some,Nat.zero_le,Nat.zero_add,true_and,Nat.sub_zero]
    rw [if_pos (by omega),hnews i hi,hst]
   ·rw [if_neg (by omega),List.getElem?_eq_none (by omega)]
    rfl
end
end Go.Proofs.Yteilffoclpgijaa
