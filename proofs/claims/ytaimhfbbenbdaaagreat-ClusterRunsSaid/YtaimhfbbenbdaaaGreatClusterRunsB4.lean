/- What the proof of ClusterRuns rests on, part 4: rules of walks, what functions compute, and plain laws of it. -/
import Derived.Test.YtaimhfbbenbdaaaGreatClusterRunsB3
import Derived.Test.YtaimhfbbenbdaaaGreatProg
import Derived.Shelf.Slices.Delete
namespace Go.Proofs.YtaimhfbbenbdaaaGreat
set_option linter.unusedVariables false
open Go.RowKit Go.Shelf Go.Sort
open Rep (rep)
abbrev E5 := @List.map_drop
abbrev B0 := @List.mem_of_mem_drop
def rhoD:Ren:=⟨fun _=>60,fun k=>match k with | 3=>3 | 4=>4 | 9=>9 | 24=>43 | _=>0,fun k=>k⟩
theorem qz4 {t:TypeId} {d:TypeDesc} (h:Tryz.prog.underlying t=some d) (hd:d.isRow=false) (w:World):(isAgg t).run Tryz.prog w= .ok false w:=by
 unfold isAgg;rw [X6,run_underlying h w];cases d<;>simp_all [TypeDesc.isRow]
theorem qt7 {t:TypeId} {v:Value} (h:(Tryz.prog.info? t).bind (·.zero)=some v) (w:World):(zeroValue t).run Tryz.prog w= .ok v w:=by
 cases hi:Tryz.prog.info? t with
 | none=>rw [hi] at h;cases h
 | some i =>
  rw [hi] at h;have h:i.zero=some v:=h;simp [zeroValue,typeInfo,hi,h]
theorem layD:Lays2.n24 Tryz.prog rhoD where
 mixed:=by kernel_rfl
 f24:=by kernel_rfl
 t0:=Tryz.underlying0
 a0:=fun w=>qz4 Tryz.underlying0 rfl w
 z0:=fun w=>qaw Ga w
 v0:=fun w=>qt7 Ga w
 t3:=Tryz.underlying3
 a3:=fun w=>qz4 Tryz.underlying3 rfl w
 z3:=fun w=>qaw Ga w
 v3:=fun w=>qt7 Ga w
 t4:=Tryz.underlying4
 a4:=fun w=>qz4 Tryz.underlying4 rfl w
 z4:=fun w=>qaw Ga w
 v4:=fun w=>qt7 Ga w
 t9:=Tryz.underlying9
 a9:=fun w=>qz4 Tryz.underlying9 rfl w
 z9:=fun w=>qaw Ga w
 v9:=fun w=>qt7 Ga w
 t24:=Tryz.underlying43
 a24:=fun w=>qz4 Tryz.underlying43 rfl w
 z24:=fun w=>qaw Ga w
 v24:=fun w=>qt7 Ga w
 i9:=by kernel_rfl
def bts (s:ByteArray):List UInt8:=s.data.toList
section
variable {n:Nat} {Q:Exit→Tm→World→Prop} {T:Tm} {w w0:World} {X:Nat→Prop} {M:Mm} {H:List Ent} {K:Tm→World→Prop} {dst:Option Tmp} {ty:TypeId} {pos:String} {af:Array Edge} {g:Option (Nat × Bool)}
set_option maxRecDepth 100000 in
theorem ze8 {args:List Operand} {ats:Array TypeId} {j:Nat} {v:Value} {e:TypeId} {xs:List Value} {l r:List ByteArray} {lo hi:Int} (hcb:CB Tryz.prog 60) (ha:args.map (evT T)=[v,.int .i64 lo,.int .i64 hi]) (hSt:St w0 X M H w)
 (hj:H[j]? = some (.stk v e 1 xs)) (hk:skr M v xs l) (hr:zcr l lo hi=some r) (k:∀ v' xs' w',skr M v' xs' r→St w0 X M (H.set j (.stk v' e 1 xs')) w'→K (qrd T dst v') w') :
 OW Tryz.prog n Q ⟨dst,.call ⟨.value (.func 60),args.toArray,ats⟩,ty,pos,af,g⟩ T w K:=by
 obtain ⟨⟨h0,hlt,hhi⟩,hre⟩:=q7w hr;obtain ⟨fn,c,hf,hname,hb⟩:=hcb;obtain ⟨⟨m,hxl,⟨rfl,rfl⟩ | ⟨b,cap,cur,rfl,_,hh,hnc,hcm,hcs,htake⟩⟩,hM⟩:=hSt.ents _ (X7 hj)
 ·obtain ⟨⟨a,cap,hv,hc⟩,_⟩:=hk;simp only [Value.slice.injEq] at hv;omega
 obtain ⟨⟨a,cap',hv,hc⟩,hby,hl,hel⟩:=hk;simp only [Value.slice.injEq] at hv;obtain ⟨rfl,rfl,rfl⟩:=hv;have hx:∀ i (hi:i<l.length),cur[i]? = some (.string l[i]):=fun i hi=>by
  have h1:=(hel i l[i] (Xy hi)).1;have h2:=qtj h1;have h3:xs[i]? = some (.string l[i]):=by
   have e:i*Rep.k ByteArray=i:=E2 i;rw [e] at h2;exact h2
  rw [← htake,Bd] at h3;split at h3
  ·simpa using h3
  ·cases h3
 have hsmall:∀ x∈l,x.size≤140737488351232:=fun x hxm=>by
  obtain ⟨i,hi⟩:=Au hxm;exact (hel i x hi).2
 have hst:∀ s:ByteArray,encStr (bts s)= .string s:=fun s=>rfl;have hH:Holds encStr w b 0 (l.map bts).toArray:=fun i hi=>by
  have hi:i<l.length:=by simpa using hi
  refine ⟨?_,by simp [World.frozen?,hh]⟩;simp only [World.cell?,hh,B4];rw [hx i hi,getElem!_pos _ i (by simpa using hi)];simp [hst]
 have hd:=Any.slices_Delete_string layD b 0 cap lo.toNat hi.toNat (l.map bts) w hH (by simpa using hc) (by unfold maxLen at hcm;omega) E8 (by simp;omega);rw [Bs,Int.toNat_of_nonneg h0,Int.toNat_of_nonneg E8] at hd;refine q3n hf hname hb ha hd fun en w' ⟨he,q,hw⟩=>?_;have hrl:r.length=l.length-(hi.toNat-lo.toNat):=by rw [hre];simp;omega
 have hnews:∀ i (h:i<r.length),((l.map bts).take lo.toNat++(l.map bts).drop hi.toNat++List.replicate (hi.toNat-lo.toNat) []).toArray[i]! = bts r[i]:=fun i h=>by
  rw [← List.map_take,← E5,← Bm,← hre,getElem!_pos _ i (by simp;omega),List.getElem_toArray,List.getElem_append_left (by simpa using h),List.getElem_map]
 have hns:((l.map bts).take lo.toNat++(l.map bts).drop hi.toNat++List.replicate (hi.toNat-lo.toNat) []).toArray.size=l.length:=by simp;omega
 generalize hng:((l.map bts).take lo.toNat++(l.map bts).drop hi.toNat++List.replicate (hi.toNat-lo.toNat) []).toArray=news at hw hnews hns;refine ⟨_,he,k _ (r.map Value.string) w' ⟨⟨_,cap,by rw [hrl],by omega⟩,?_,?_,fun i x hxi=>?_⟩ ?_⟩
 ·have:=Af (Rep.bytes ByteArray) (show r.length≤l.length by omega);omega
 ·rw [Bs];exact (E2 _).symm
 ·have hxm:x∈r:=X7 hxi;have hxl:x∈l:=by
   rw [hre] at hxm;rcases Ad.1 hxm with h | h
   ·exact List.mem_of_mem_take h
   ·exact B0 h
  refine ⟨?_,hsmall x hxl⟩;have hi:=(Xz.1 hxi).1;show sl (r.map Value.string) (i*1) 1=[.string x];refine qo0 fun p=>?_;cases p with
  | zero=>rw [qg1 _ _ _ _ E8,B9,E2,Aw,hxi];rfl
  | succ p=>rw [qby _ _ _ _ E8];rfl
 ·have hblk:w'.heap[b]? = some (.cells (putCells encStr 0 news cur) e (0,0)):=by
   rw [hw];show (w.heap.modify b _)[b]? = _;rw [D6,if_pos rfl,hh];rfl
  refine hSt.turnStk (b:=b) (m:=r.length) hj rfl rfl (by rw [hw];rfl) (by rw [hw];rfl) (by rw [hw];rfl) (by rw [hw];simp []) (fun p hp=>?_) ⟨by simp,.inr ⟨b,cap,_,by rw [hrl],Ag _,hblk,by omega,hcm,by simpa [putCells] using hcs,?_⟩⟩
  ·rw [hw];show (w.heap.modify b _)[p]? = _;rw [D6,if_neg (fun h=>hp h.symm)]
  ·refine Dz fun i=>?_;rw [Bd,Aw];by_cases hi:i<r.length
   ·rw [if_pos E8,Bt,putCells,Array.getElem?_mapIdx,hx i E8,Xy hi];simp only [Ac,Ag,B4,true_and,Nat.sub_zero];rw [if_pos E8,hnews i hi,hst]
   ·rw [if_neg E8,Bl E8];rfl
end
set_option maxHeartbeats 4000000
set_option maxRecDepth 100000
open Go.RowKit
variable {M:Mm} {w:World} {fu:Nat}
abbrev Jd := @GReply.w0
abbrev Uo := @tb48
abbrev Ko := @ta48
abbrev Xo := @zem
abbrev Xp := @zel
abbrev Je := @GCluster.p5
abbrev Jf := @GCluster.p4
abbrev Jg := @GReply.w1
abbrev Kx := @GCluster.p2
abbrev Ki := @GCluster.p0
abbrev Ky := @GCluster.p3
abbrev Xq := @zek
abbrev Xr := @ia39
abbrev V5 := @GCluster.p1
abbrev Ut := @GCluster.u0
abbrev Vc := @zdq
abbrev Yu := @GAct.p1
abbrev J2 := @zdp
abbrev K6 := @GAct.p0
abbrev Xd := @GAct.p2
abbrev Js := @zht
abbrev Ku := @Tryz.underlying22
def q7x (fu:Nat) (a:Int):Option GReply:=(some ({ code:=a,n:=Zr.zd,values:=Zr.zd }:GReply)).bind fun b=>(some b).bind fun c=>some c
theorem q2g {a:Int} {r:GReply} (g:Agree M w)  (b:q7x fu a=some r) :
    Calls Tryz.prog 29 #[Ge a] w (Gives M w (fun h u=>∃ cs,u=Gf cs∧rep h cs r)):=by
 refine Zm Tryz.func29 5 fun T i=>?_;have k:T 0=Ge a:=i 0;have c:Gi w M [] w:=Zt g;rw [q7x] at b;refine Qz ?_;refine Ql (Zn q9m c ?_);intro _ _ _ c;have d:rep M (Zr.zc GReply) (Zr.zd:GReply):=Zr.zr;refine Qj<|Qz<|Zj k ?_;have l:=Jd (Zr.zr:rep M (Zr.zc GReply) (Zr.zd:GReply)) (ri a:rep M _ _);obtain ⟨m,o,b⟩:=Qc b;obtain ⟨_,p,e⟩:∃ cs,qay (([(0,1),(1,1),(2,1)]:List (Nat × Nat))[·]?) (Zr.zc GReply) [(0,Ge a)]=some cs∧rep M cs m:=⟨_,(Zf (Zr.zr:rep M (Zr.zc GReply) (Zr.zd:GReply)) rfl rfl (Xx (ri a:rep M _ _)) E9 Yd),Ye (x:=({ code:=a,n:=Zr.zd,values:=Zr.zd }:GReply)) l o⟩;refine Qa (Z0 [(0,Ge a)] Uo (Y3 rfl Vl) p) ?_;obtain ⟨_,q,b⟩:=Qc b;refine Ql (Z8 0 3 c d e (Lf (rr d) e) q ?_);intro _ _ f _ _ c;refine Qj ?_;cases b;exact Q2 (J5 (j:=0) rfl rfl (Vz Ko f) c rfl (Zc c (Qb _ _ _) ⟨_,rfl,f⟩))
def qmi (y16:Int) (rec17:GCluster→(List ByteArray)→Int→Option (GCluster × (List ByteArray))) (d26:GCluster) (l29:List ByteArray):Option (GCluster × (List ByteArray)) := rec17 d26 l29 (IntKind.wrap .i64 (y16+1))
def qmj (a:GCluster) (b:List ByteArray) (c:Int) (d:GCluster→(List ByteArray)→Int→Option (GCluster × (List ByteArray))) (e:ByteArray × Int) (f:Bool):Option (GCluster × (List ByteArray)):=(bif f then (q1p e.1).bind fun _=>(app b ([e.1]:List ByteArray)).bind fun g=>(some ({ a with net:=Hole.mk }:GCluster)).bind fun h=>qmi c d h g else qmi c d a b)
def qel (fu:Nat) (a:List GFrame):Nat→GCluster→(List ByteArray)→Int→Option (GCluster × (List ByteArray))
 | 0,_,_,_=>none
 | n+1,d,b,c=>(bif decide (c<(a.length:Int)) then (idx a c).bind fun f=>(some f).bind fun g=>(ql7 fu g).bind fun e=>(bif e.2==0 then qmj d b c (qel fu a n) e (decide ((b.length:Int)<60)) else qmj d b c (qel fu a n) e false) else some (d,b))
def qpb (fu:Nat) (x1:GCluster) (l3:List ByteArray) (x4:List GFrame):Option (GCluster × (List ByteArray)) := qel fu x4 fu x1 l3 0
theorem qp8 {c:Nat} {g:Gl} {h:Value} {i:Gl} {y:Value} {z:GCluster} {l3:List ByteArray} {s:List GFrame} {r:GCluster × (List ByteArray)} (b:St w (qai [Gk c g 89,.stk h 9 1 i]) M [Gk c g 89,.stk h 9 1 i] w) (bh:rep M g z) (bi:skr M h i l3) (bj:sl g 1993 1=[h]) (ah:repL M y s) (a:qpb fu z l3 s=some r) :
    Calls Tryz.prog 32 #[Gg c,y] w (qdq M w [Gk c g 89,.stk h 9 1 i] (fun M' u L'=>∃ k0 u1 z,u= .tuple #[]∧L'=[Gk c k0 89,.stk u1 9 1 z]∧rep M' k0 r.1∧skr M' u1 z r.2∧sl k0 1993 1=[u1])):=by
 refine Zm Tryz.func32 40 fun T hT=>?_;have bl:T 0=Gg c:=hT 0;have bm:T 1=y:=hT 1;rw [qpb] at a;refine Qz<|Zj bm ?_;obtain ⟨_,_,bn,_⟩:=Qy ah;refine Qa (Zh Tryz.underlying67 (Vr bn rfl))<|Qa (Qd (Ge 0) rfl)<|Qj<|Qs ?_;refine Zy (fun au d w'=>∃ k p ac m t x n,Mm.ext w.heap.size (qai [Gk c g 89,.stk h 9 1 i]) M k∧St w (qai [Gk c g 89,.stk h 9 1 i]) k [Gk c p 89,.stk m 9 1 t] w'∧rep k p ac∧skr k m t x∧sl p (0+1993) 1=[m]∧d 0=Gg c∧d 8=y∧d 9=Ge (s.length:Int)∧d 10=Ge n∧qel fu s au ac x n=some r) fu ?_ ?_ ?_;exact ⟨M,g,z,h,i,l3,(0:Int),(Qb _ _ _),b,bh,bi,bj,bl,rfl,rfl,rfl,a⟩;rintro d w' ⟨_,_,_,_,_,_,_,_,_,_,_,_,_,_,_,_,a⟩;rw [qel] at a;cases a;intro au;rintro _ _ ⟨k,p,ac,m,t,x,n,av,b,o,q,ai,aw,ax,ay,aj,a⟩;replace ah:=Qo av.1 ah;rw [qel] at a;obtain ⟨a6,a7⟩:∃ f,f=qel fu s au:=⟨_,rfl⟩;rw [← a7] at a;refine Qz<|Qa (Zw aj ay)<|Qj<|Qu ?_;refine Q4 a rfl (fun bo a=>?_) fun bo a=>?_;refine Qk<|Qe ?_;refine Qp (fun d w'=>∃ ab ad ak ae al am,Mm.ext w.heap.size (qai [Gk c g 89,.stk h 9 1 i]) k ab∧St w (qai [Gk c g 89,.stk h 9 1 i]) ab [Gk c ad 89,.stk ae 9 1 al] w'∧rep ab ad ak∧skr ab ae al am∧sl ad (0+1993) 1=[ae]∧d 0=Gg c∧d 8=y∧d 9=Ge (s.length:Int)∧d 10=Ge n∧qmi n a6 ak am=some r) ?_ ?_;refine Qs<|Qz ?_;obtain ⟨_,_,_,_,_,bp,bq,br,bs,bu,a⟩:=Yc 7 ah a;refine Qa (Yp il67 ax bp aj bq br) ?_;have az:=bu;refine Qa (Zb Jh rfl (b.bvM bs) (Xx az)) ?_;refine Ql (Zn q59 b ?_);intro bv _ a8 b;have a9:rep k (Zr.zc GFrame) (Zr.zd:GFrame):=Zr.zr;obtain ⟨_,bw,a⟩:=Qc a;refine Ql (Z8 0 7 b a9 az (Lf (rr a9) az) bw ?_);intro ba _ bx _ _ b;refine Qj<|Qz ?_;have bb:=(rr bx);refine Qa (Zb Jh rfl (b.bvB 0 rfl) (Xx bb)) ?_;obtain ⟨e,bz,a⟩:=Qc a;refine Ql<|Zi (vs:=[Gf (sl ba (0) 7)]) (v:= .tuple #[.string e.1,Ge e.2]) cb64 (Zl rfl) b (q7p b.agree bb bz) fun c4 b=>Qa (Qd (.tuple #[.string e.1,Ge e.2]) rfl)<|Qa (Q3 (v:= .string e.1) rfl rfl)<|Qa (Q3 (v:= Ge e.2) rfl rfl)<|Qv 2 rfl<|Qj ?_;refine Qp (fun d w'=>∃ af a0,Mm.ext w.heap.size (qai [Gk c g 89,.stk h 9 1 i]) k af∧St w (qai [Gk c g 89,.stk h 9 1 i]) af [Gk bv ba 82,Gk c p 89,.stk m 9 1 t] w'∧d 0=Gg c∧d 6= .string e.1∧d 8=y∧d 9=Ge (s.length:Int)∧d 10=Ge n∧d 28= .bool a0∧qmj ac x n a6 e a0=some r) ?_ ?_;refine Q1<|Qa (Qd (Ge e.2) rfl)<|Qa (Z5 rfl rfl)<|Qa (Qd (.bool (e.2==0)) rfl) ?_;rcases ic a with ⟨bc,a⟩ | ⟨bc,a⟩<;>rw [bc];refine Qg rfl rfl (Qd _ aw)<|Qg rfl rfl (Q9 rfl)<|Qg rfl rfl (Qi Xo rfl)<|Qg rfl rfl (Qh m q63 rfl (b.bvB 1 rfl) ai) ?_;obtain ⟨_,_,b0,_⟩:=Vx q;refine Qg rfl rfl (Zh V4 (Vr b0 rfl))<|Qg rfl rfl (Zw rfl rfl)<|Qa (Zk (.bool (decide ((x.length:Int)<60))) rfl rfl)<|Qj ?_;exact ⟨k,(decide ((x.length:Int)<60)),(Qb _ _ _),b,aw,rfl,ax,ay,aj,rfl,a⟩;refine Qv 7 rfl<|Qj ?_;exact ⟨k,false,(Qb _ _ _),b,aw,rfl,ax,ay,aj,rfl,a⟩;rintro _ _ ⟨af,a0,an,b,ao,b1,bd,be,bg,b2,a⟩;replace o:=Zg an o;replace q:=Zv an.1 q;rw [qmj] at a;refine Q4 a b2 (fun b3 a=>?_) fun b3 a=>?_;refine Q1<|Zj ao<|Zj ao<|Qa (Q9 rfl)<|Qa (Qi Xo rfl)<|Qa (Qh m q63 rfl (b.bvB 1 rfl) ai)<|Zj b1 ?_;obtain ⟨_,a1,a⟩:=Qc a;have a1:=Kf a1;refine Ql (Zz (α := ByteArray) (l:=([e.1]:List ByteArray)) [.string e.1] zfm (Y3 rfl Vl) rfl rfl E9 E9 E9 b (Jj (Vw a1:rep af [Value.string e.1] e.1) Jv) ?_);intro _ b4 _ a2 b5 b;replace o:=Zg a2 o;replace q:=Zv a2.1 q;obtain ⟨b6,b7,b8,a⟩:=Z1 a;refine Ql (q3z (α := ByteArray) (j:=2) zbb b rfl rfl rfl q b5 b7 ?_);intro b9 ca _ ag b;rw [← b8] at ag;refine Qa (Q9 rfl)<|Qa (Qi Xo rfl) ?_;obtain ⟨cb,cc,a⟩:=Qc a;refine Ql (Z9 1 1 b rfl o rfl rfl (Jl ag) (U1 ag) rfl (GCluster.u6 (rr o) (Lf (GCluster.p6 (rr o)) (Jl ag))) cc ?_);intro cd _ ce _ cf b;have cg:=cf;refine Yk<|Q7<|Qe ?_;exact ⟨b4,cd,cb,b9,ca,b6,(an.trans a2),(Yz b a8),ce,ag,cg,ao,bd,be,bg,a⟩;refine Qk<|Q7<|Qe ?_;exact ⟨af,p,ac,m,t,x,an,(Yz b a8),o,q,ai,ao,bd,be,bg,a⟩;rintro _ _ ⟨ab,ad,ak,ae,al,am,ch,b,ci,cj,ck,cl,cm,cn,co,a⟩;rw [qmi] at a;refine Q1<|Qa (Zu co rfl)<|Qa (Qd (Ge (IntKind.wrap .i64 (n+1))) rfl)<|Qj ?_;exact ⟨ab,ad,ak,ae,al,am,(IntKind.wrap .i64 (n+1)),(av.trans ch),b,ci,cj,ck,cl,cm,cn,rfl,(by rw [← a7];exact a)⟩;refine Zp<|Qq<|Qq<|Zq ?_;cases a;exact (Xc (zcn rfl  ⟨_,k,_,rfl,av,(b.sel (H':=[Gk c p 89,.stk m 9 1 t]) [0,1] E9 rfl),p,m,t,rfl,rfl,o,q,ai⟩))
def qp9 (fu:Nat) (a:GCluster) (c:List ByteArray) (f:List GOp):Option (GReply × GCluster × (List ByteArray)):=(bif decide (a.begun≥32) then (some ({ code:=5,n:=Zr.zd,values:=Zr.zd }:GReply)).bind fun g=>(some g).bind fun h=>some (h,a,c) else (some ({ id:=a.begun,ops:=f }:GTxn)).bind fun i=>(qjx fu i).bind fun b=>(some b.1).bind fun j=>(bif b.2.2 != 0 then (some ({ code:=b.2.2,n:=Zr.zd,values:=Zr.zd }:GReply)).bind fun k=>(some k).bind fun l=>some (l,a,c) else (inR a.begun 32).bind fun _=>(qan a.cases a.begun).bind fun r=>(qc1 a.cases a.begun j).bind fun m=>(some ({ a with cases:=m }:GCluster)).bind fun e=>(some ({ e with begun:=IntKind.wrap .i64 (e.begun+1) }:GCluster)).bind fun o=>(qpb fu o c b.2.1).bind fun d=>(some ({ code:=Zr.zd,n:=IntKind.wrap .i64 (d.1.begun-1),values:=Zr.zd }:GReply)).bind fun p=>(some p).bind fun q=>some (q,d.1,d.2)))
theorem q48 {d:Nat} {g:Gl} {h:Value} {l:Gl} {aa:Value} {c:GCluster} {l3:List ByteArray} {x4:List GOp} {r:GReply × GCluster × (List ByteArray)} (b:St w (qai [Gk d g 89,.stk h 9 1 l]) M [Gk d g 89,.stk h 9 1 l] w) (f:rep M g c) (ab:skr M h l l3) (ah:sl g 1993 1=[h]) (ai:repL M aa x4) (a:qp9 fu c l3 x4=some r) :
    Calls Tryz.prog 30 #[Gg d,aa] w (qdq M w [Gk d g 89,.stk h 9 1 l] (fun m u L'=>∃ c0 s t c,u=Gf c0∧L'=[Gk d s 89,.stk t 9 1 c]∧rep m c0 r.1∧rep m s r.2.1∧skr m t c r.2.2∧sl s 1993 1=[t])):=by
 refine Zm Tryz.func30 54 fun T hT=>?_;have y:T 0=Gg d:=hT 0;have a9:T 1=aa:=hT 1;rw [qp9] at a;refine Qz ?_;refine Ql (Zn q9m b ?_);intro b6 _ _ b;have i:rep M (Zr.zc GReply) (Zr.zd:GReply):=Zr.zr;refine Qj<|Qu<|Qz<|Zj y<|Qa (Q9 rfl)<|Qa (Qi Xp rfl)<|Qa (Qh (Ge c.begun) Z4 rfl (b.bvB 1 rfl) (Je (rr f)))<|Qa (Kh rfl rfl)<|Qj ?_;refine Q4 a rfl (fun bb a=>?_) fun bb a=>?_;refine Qz ?_;have bc:=Jd (Zr.zr:rep M (Zr.zc GReply) (Zr.zd:GReply)) (ri 5:rep M _ _);obtain ⟨d9,be,a⟩:=Qc a;obtain ⟨_,bg,ao⟩:∃ cs,qay (([(0,1),(1,1),(2,1)]:List (Nat × Nat))[·]?) (Zr.zc GReply) [(0,Ge 5)]=some cs∧rep M cs d9:=⟨_,(Zf (Zr.zr:rep M (Zr.zc GReply) (Zr.zd:GReply)) rfl rfl (Xx (ri 5:rep M _ _)) E9 Yd),Ye (x:=({ code:=5,n:=Zr.zd,values:=Zr.zd }:GReply)) bc be⟩;refine Qa (Z0 [(0,Ge 5)] Uo (Y3 rfl Vl) bg) ?_;obtain ⟨_,bh,a⟩:=Qc a;refine Ql (Z8 0 3 b i ao (Lf (rr i) ao) bh ?_);intro bi _ ap _ _ b;refine Qj ?_;cases a;exact Q2 (J5 (j:=0) rfl rfl (Vz Ko ap) b rfl ⟨_,M,_,rfl,(Qb _ _ _),(b.sel (H':=[Gk d g 89,.stk h 9 1 l]) [1,2] E9 rfl),bi,g,h,l,rfl,rfl,ap,f,ab,ah⟩);refine Qk<|Qe<|Qz<|Zj y<|Qa (Q9 rfl)<|Qa (Qi Xp rfl)<|Qa (Qh (Ge c.begun) Z4 rfl (b.bvB 1 rfl) (Je (rr f)))<|Zj a9 ?_;have aq:=GTxn.w0 (Zr.zr:rep M (Zr.zc GTxn) (Zr.zd:GTxn)) (ri c.begun:rep M _ _);have bj:=GTxn.w1 aq (Qt ai);obtain ⟨bk,bl,a⟩:=Qc a;obtain ⟨bm,bn,bo⟩:∃ cs,qay (([(0,1),(1,1)]:List (Nat × Nat))[·]?) (Zr.zc GTxn) [(0,Ge c.begun),(1,aa)]=some cs∧rep M cs bk:=⟨_,(Zf (Zr.zr:rep M (Zr.zc GTxn) (Zr.zd:GTxn)) rfl rfl (Xx (ri c.begun:rep M _ _)) E9 (Zf aq rfl (Q8 ai) (Xx (Qt ai)) E9 Yd)),Ye (x:=({ id:=c.begun,ops:=x4 }:GTxn)) bj bl⟩;refine Qa (Z0 [(0,Ge c.begun),(1,aa)] tb71 (Y3 rfl (Y3 rfl Vl)) bn) ?_;obtain ⟨e,bp,a⟩:=Qc a;refine Ql (Yh (vs:=[Gf bm]) (rv:=(fun m u=>∃ c0 v1,u= .tuple #[Gf c0,v1,Ge e.2.2]∧rep m c0 e.1∧repL m v1 e.2.1)) cb59 (Zl rfl) b (qzy b.agree bo bp) ?_);intro _ o _ ad bq b;obtain ⟨au,ae,br,av,bs⟩:=bq;subst br;replace f:=Zg ad f;replace ab:=Zv ad.1 ab;replace i:=Zg ad i;refine Qa (Qd (.tuple #[Gf au,ae,Ge e.2.2]) rfl)<|Qa (Q3 (v:= Gf au) rfl rfl)<|Qa (Q3 (v:=ae) rfl rfl)<|Qa (Q3 (v:= Ge e.2.2) rfl rfl) ?_;refine Ql (Zn Xl b ?_);intro aw _ _ b;have ax:rep o (Zr.zc GCase) (Zr.zd:GCase):=Zr.zr;obtain ⟨_,bu,a⟩:=Qc a;refine Ql (Z8 0 24 b ax av (Lf (rr ax) av) bu ?_);intro ay _ bv _ _ b;refine Qv 2 rfl<|Qj<|Qu<|Qz<|Qa (Qd (Ge e.2.2) rfl)<|Qa (Yi rfl rfl)<|Qj ?_;refine Q4 a rfl (fun bw a=>?_) fun bw a=>?_;refine Qz<|Qa (Qd (Ge e.2.2) rfl) ?_;have bx:=Jd (Zr.zr:rep o (Zr.zc GReply) (Zr.zd:GReply)) (ri e.2.2:rep o _ _);obtain ⟨bz,b0,a⟩:=Qc a;obtain ⟨_,b1,az⟩:∃ cs,qay (([(0,1),(1,1),(2,1)]:List (Nat × Nat))[·]?) (Zr.zc GReply) [(0,Ge e.2.2)]=some cs∧rep o cs bz:=⟨_,(Zf (Zr.zr:rep o (Zr.zc GReply) (Zr.zd:GReply)) rfl rfl (Xx (ri e.2.2:rep o _ _)) E9 Yd),Ye (x:=({ code:=e.2.2,n:=Zr.zd,values:=Zr.zd }:GReply)) bx b0⟩;refine Qa (Z0 [(0,Ge e.2.2)] Uo (Y3 rfl Vl) b1) ?_;obtain ⟨_,b2,a⟩:=Qc a;refine Ql (Z8 1 3 b i az (Lf (rr i) az) b2 ?_);intro b3 _ a0 _ _ b;refine Qj ?_;cases a;exact Q2 (J5 (j:=1) rfl rfl (Vz Ko a0) b rfl ⟨_,o,_,rfl,ad,(b.sel (H':=[Gk d g 89,.stk h 9 1 l]) [2,3] E9 rfl),b3,g,h,l,rfl,rfl,a0,f,ab,ah⟩);refine Qk<|Qe<|Qu<|Ys [Gk aw ay 62,Gk d g 89] [9] Z6 b fun dd b de p=>Qw 0 rfl (Qd _ y) p<|Qw 1 rfl (Qd _ y) p<|Qw 2 rfl (Q9 rfl) p<|Qw 3 rfl (Qi Xp rfl) p<|Y4 4 rfl (Qh (Ge c.begun) Z4 rfl (Ym 1 rfl) (Je (rr f))) p ?_;have ak:=(rr bv);refine Y4 5 rfl (Zb Vd rfl (Ym 0 rfl) (Xx ak)) p<|Qw 6 rfl (Q9 rfl) p<|Qw 7 rfl (Qi qzq rfl) p ?_;obtain ⟨b4,b5,a⟩:=Qn a;refine Qw 8 rfl (Ze zej rfl rfl b4 b5) p ?_;obtain ⟨_,a1,a⟩:=Qc a;obtain ⟨_,b7,a⟩:=Qc a;obtain ⟨al,b8,a⟩:=Qc a;have dh:=(Zs a1);refine w1 9 rfl (Z8 2 24 b f ak (GCluster.u4 (rr f) (vu (k:=24) rfl rfl (Jf (rr f)) (Lf (vp (k:=24) rfl rfl (Jf (rr f)) a1) ak) b7)) b8 ?_);intro _ _ af b9 _ b;have ca:=(b9 E8).trans ah;refine ⟨nB,?_⟩;refine wd<|Qe<|Qz<|Zj y<|Qa (Q9 rfl)<|Qa (Qi Xp rfl)<|Qa (Qh (Ge al.begun) Z4 rfl (b.bvB 2 rfl) (Je (rr af)))<|Qa (Zu rfl rfl)<|Qa (Q9 rfl)<|Qa (Qi Xp rfl) ?_;obtain ⟨_,cb,a⟩:=Qc a;refine Ql (Z8 2 1 b af (ri (IntKind.wrap .i64 (al.begun+1)):rep o _ _) (GCluster.u5 (rr af) (Lf (Je (rr af)) (ri (IntKind.wrap .i64 (al.begun+1)):rep o _ _))) cb ?_);intro cc _ cd ce _ b;have cf:=(ce E8).trans ca;refine Qj<|Qz<|Zj y<|Qa (Qd (ae) rfl) ?_;obtain ⟨q,cg,a⟩:=Qc a;refine Ql (Yo (vs:=[Gg d,ae]) (L:=[Gk d cc 89,.stk h 9 1 l]) (R:=[Gk aw ay 62,Gk b6 (Zr.zc GReply) 48]) (rv:=(fun m u L'=>∃ s t c,u= .tuple #[]∧L'=[Gk d s 89,.stk t 9 1 c]∧rep m s q.1∧skr m t c q.2∧sl s 1993 1=[t])) zfo (Ya rfl rfl) b (b.sel [2,3,0,1] E9 rfl) (fun b=>qp8 b cd ab cf bs cg) ?_);rintro _ z _ _ a2 ⟨a3,a4,a5,rfl,ch,a6,ci,cj⟩ b;replace b:=b _ ch;replace i:=Zg a2 i;refine Qj<|Qz<|Zj y<|Qa (Q9 rfl)<|Qa (Qi Xp rfl)<|Qa (Qh (Ge q.1.begun) Z4 rfl (b.bvB 0 rfl) (Je (rr a6)))<|Qa (Ja rfl rfl) ?_;have ck:=Jg (Zr.zr:rep z (Zr.zc GReply) (Zr.zd:GReply)) (ri (IntKind.wrap .i64 (q.1.begun-1)):rep z _ _);obtain ⟨cl,cm,a⟩:=Qc a;obtain ⟨_,cn,a7⟩:∃ cs,qay (([(0,1),(1,1),(2,1)]:List (Nat × Nat))[·]?) (Zr.zc GReply) [(1,Ge (IntKind.wrap .i64 (q.1.begun-1)))]=some cs∧rep z cs cl:=⟨_,(Zf (Zr.zr:rep z (Zr.zc GReply) (Zr.zd:GReply)) rfl rfl (Xx (ri (IntKind.wrap .i64 (q.1.begun-1)):rep z _ _)) E9 Yd),Ye (x:=({ code:=Zr.zd,n:=IntKind.wrap .i64 (q.1.begun-1),values:=Zr.zd }:GReply)) ck cm⟩;refine Qa (Z0 [(1,Ge (IntKind.wrap .i64 (q.1.begun-1)))] Uo (Y3 rfl Vl) cn) ?_;obtain ⟨_,co,a⟩:=Qc a;refine Ql (Z8 3 3 b i a7 (Lf (rr i) a7) co ?_);intro cp _ a8 _ _ b;refine Qj ?_;cases a;exact Q2 (J5 (j:=3) rfl rfl (Vz Ko a8) b rfl ⟨_,z,_,rfl,(ad.trans a2),(b.sel (H':=[Gk d a3 89,.stk a4 9 1 a5]) [0,1] E9 rfl),cp,a3,a4,a5,rfl,rfl,a8,a6,ci,cj⟩)
def qri (fu:Nat) (b:GCluster) (a:Int):Option GReply:=(inR a 32).bind fun _=>(qan b.cases a).bind fun c=>(qiu fu c).bind fun d=>(some ({ code:=Zr.zd,n:=a,values:=d.1 }:GReply)).bind fun e=>(some e).bind fun f=>some f
theorem qz5 {d:Nat} {e:Gl} {o:GCluster} {c:Int} {r:GReply} (b:St w (qai [Gk d e 89]) M [Gk d e 89] w) (ad:rep M e o) (a:qri fu o c=some r) :
    Calls Tryz.prog 34 #[Gg d,Ge c] w (qdq M w [Gk d e 89] (fun l u L'=>∃ p,u=Gf p∧L'=[Gk d e 89]∧rep l p r)):=by
 refine Zm Tryz.func34 20 fun T q=>?_;have af:T 0=Gg d:=q 0;have s:T 1=Ge c:=q 1;rw [qri] at a;refine Qz ?_;refine Ql (Zn q9m b ?_);intro _ _ _ b;have i:rep M (Zr.zc GReply) (Zr.zd:GReply):=Zr.zr;refine Qj<|Qz<|Zj af<|Zj s<|Qa (Q9 rfl)<|Qa (Qi qzq rfl) ?_;obtain ⟨ag,ah,a⟩:=Qn a;refine Qa (Ze zej rfl rfl ag ah) ?_;obtain ⟨_,ai,a⟩:=Qc a;have t:=(vp (k:=24) rfl rfl (Jf (rr ad)) ai);refine Qa (Zb Vd rfl (b.bvB 1 rfl) (Xx t)) ?_;obtain ⟨g,aj,a⟩:=Qc a;refine Ql (Yh (vs:=[Gf (sl e (0+1224+Int.toNat c*24) 24)]) (rv:=(fun l u=>∃ y,u= .tuple #[y,.bool g.2]∧repL l y g.1)) cb70 (Zl rfl) b (qx8 b.agree t aj) ?_);intro _ f _ z ak b;obtain ⟨h,al,m⟩:=ak;subst al;replace i:=Zg z i;refine Qa (Qd (.tuple #[h,.bool g.2]) rfl)<|Qa (Q3 (v:=h) rfl rfl)<|Qa (Q3 (v:= .bool g.2) rfl rfl)<|Qv 2 rfl<|Qj<|Qz<|Zj s<|Qa (Qd (h) rfl) ?_;have aa:=Jg (Zr.zr:rep f (Zr.zc GReply) (Zr.zd:GReply)) (ri c:rep f _ _);have am:=GReply.w2 aa (Qt m);obtain ⟨an,ao,a⟩:=Qc a;obtain ⟨_,ap,ab⟩:∃ cs,qay (([(0,1),(1,1),(2,1)]:List (Nat × Nat))[·]?) (Zr.zc GReply) [(1,Ge c),(2,h)]=some cs∧rep f cs an:=⟨_,(Zf (Zr.zr:rep f (Zr.zc GReply) (Zr.zd:GReply)) rfl rfl (Xx (ri c:rep f _ _)) E9 (Zf aa rfl (Q8 m) (Xx (Qt m)) E9 Yd)),Ye (x:=({ code:=Zr.zd,n:=c,values:=g.1 }:GReply)) am ao⟩;refine Qa (Z0 [(1,Ge c),(2,h)] Uo (Y3 rfl (Y3 rfl Vl)) ap) ?_;obtain ⟨_,aq,a⟩:=Qc a;refine Ql (Z8 0 3 b i ab (Lf (rr i) ab) aq ?_);intro ar _ ac _ _ b;refine Qj ?_;cases a;exact Q2 (J5 (j:=0) rfl rfl (Vz Ko ac) b rfl ⟨_,f,_,rfl,z,(b.sel (H':=[Gk d e 89]) [1] E9 rfl),ar,rfl,rfl,ac⟩)
def qqa (fu:Nat) (b:GCluster) (c:List ByteArray) (a:Int) (i:ByteArray) (m:GNode) (n:List GFrame) (j:Int):Option (Int × GCluster × (List ByteArray)):=(bif j != 0 then some (j,b,c) else (inR a 6).bind fun _=>(qan b.tear a).bind fun o=>(bif decide (o>0) then (inR a 6).bind fun _=>(qan b.logs a).bind fun p=>(inR a 6).bind fun _=>(qan b.tear a).bind fun q=>(qt6 fu p i (IntKind.wrap .i64 (q-1))).bind fun k=>(inR a 6).bind fun _=>(q1p k).bind fun _=>(qan b.logs a).bind fun ab=>(qc1 b.logs a k).bind fun r=>(some ({ b with logs:=r }:GCluster)).bind fun f=>(some ({ entries:=Zr.zd,order:=Zr.zd,values:=Zr.zd }:GNode)).bind fun s=>(inR a 6).bind fun _=>(qan f.nodes a).bind fun ac=>(qc1 f.nodes a s).bind fun t=>(some ({ f with nodes:=t }:GCluster)).bind fun g=>(inR a 6).bind fun _=>(qan g.down a).bind fun ad=>(qc1 g.down a true).bind fun u=>(some ({ g with down:=u }:GCluster)).bind fun h=>(inR a 6).bind fun _=>(qan h.tear a).bind fun ae=>(qc1 h.tear a 0).bind fun v=>(some ({ h with tear:=v }:GCluster)).bind fun w=>some (6,w,c) else (inR a 6).bind fun _=>(qan b.logs a).bind fun x=>(qnw fu x i).bind fun d=>(inR a 6).bind fun _=>(q1p d.1).bind fun _=>(qan b.logs a).bind fun af=>(qc1 b.logs a d.1).bind fun y=>(some ({ b with logs:=y }:GCluster)).bind fun e=>(bif d.2 != 0 then some (d.2,e,c) else (inR a 6).bind fun _=>(qan e.nodes a).bind fun ag=>(qc1 e.nodes a m).bind fun z=>(some ({ e with nodes:=z }:GCluster)).bind fun aa=>(qpb fu aa c n).bind fun l=>some (0,l.1,l.2))))
def qt8 (fu:Nat) (b:GCluster) (d:List ByteArray) (a:Int) (e:GFrame) (f:ByteArray):Option (Int × GCluster × (List ByteArray)):=(inR a 6).bind fun _=>(qan b.down a).bind fun g=>(bif g then some (6,b,d) else (inR a 6).bind fun _=>(qan b.nodes a).bind fun h=>(qj9 fu h a e).bind fun c=>(some c.1).bind fun i=>qqa fu b d a f i c.2.1 c.2.2)
theorem q7y {c:Nat} {g:Gl} {h:Value} {l:Gl} {t:Gl} {z:GCluster} {l3:List ByteArray} {x4:Int} {x5:GFrame} {x6:ByteArray} {r:Int × GCluster × (List ByteArray)} (b:St w (qai [Gk c g 89,.stk h 9 1 l]) M [Gk c g 89,.stk h 9 1 l] w) (d:rep M g z) (af:skr M h l l3) (ay:sl g 1993 1=[h]) (cm:rep M t x5) (a:qt8 fu z l3 x4 x5 x6=some r) :
    Calls Tryz.prog 62 #[Gg c,Ge x4,Gf t,.string x6] w (qdq M w [Gk c g 89,.stk h 9 1 l] (fun p u L'=>∃ k0 u1 z,u=Ge r.1∧L'=[Gk c k0 89,.stk u1 9 1 z]∧rep p k0 r.2.1∧skr p u1 z r.2.2∧sl k0 1993 1=[u1])):=by
 refine Zm Tryz.func62 105 fun T hT=>?_;have a0:T 0=Gg c:=hT 0;have ao:T 1=Ge x4:=hT 1;have cn:T 2=Gf t:=hT 2;have bv:T 3= .string x6:=hT 3;rw [qt8] at a;refine Qz ?_;refine Ql<|Yr (v:= Gf t) (cs:=t) cn rfl b fun b8 w7 fd b=>Qa (Qf (Ge 0) rfl)<|Qj<|Qu<|Qz<|Zj a0<|Zj ao<|Qa (Q9 rfl)<|Qa (Qi qzo rfl) ?_;obtain ⟨co,cp,a⟩:=Qn a;refine Qa (Ze J7 rfl rfl co cp) ?_;obtain ⟨cq,cr,a⟩:=Qc a;refine Qa (Qh (.bool cq) Ji rfl (b.bvB 1 rfl) (vp (k:=1) rfl rfl (Kx (rr d)) cr))<|Qj ?_;refine Q4 a rfl (fun ct a=>?_) fun ct a=>?_;refine Qz<|Qa (Qf (Ge 6) rfl)<|Qj ?_;cases a;exact Q2 (Yn rfl rfl ⟨_,M,_,rfl,(Qb _ _ _),(b.sel (H':=[Gk c g 89,.stk h 9 1 l]) [1,2] E9 rfl),g,h,l,rfl,rfl,d,af,ay⟩);refine Qk<|Qe ?_;refine Qp (fun T' w'=>∃ e ak ap bg a1 bh a2,Mm.ext w.heap.size (qai [Gk c g 89,.stk h 9 1 l]) M e∧St w (qai [Gk c g 89,.stk h 9 1 l]) e [Gk ak ap 37,Gk b8 t 82,Gk c g 89,.stk h 9 1 l] w'∧rep e ap bg∧w.heap.size≤ak∧repL e a1 bh∧T' 9=Gg ak∧T' 0=Gg c∧T' 1=Ge x4∧T' 3= .string x6∧T' 10=a1∧T' 11=Ge a2∧qqa fu z l3 x4 x6 bg bh a2=some r) ?_ ?_;refine Ys [Gk b8 t 82,Gk c g 89] [] Z6 b fun fe b al ad=>Qw 0 rfl (Qd _ a0) ad<|Qw 1 rfl (Qd _ ao) ad<|Qw 2 rfl (Q9 rfl) ad<|Qw 3 rfl (Qi qzn rfl) ad ?_;obtain ⟨cv,cw,a⟩:=Qn a;refine Qw 4 rfl (Ze q9j rfl rfl cv cw) ad ?_;obtain ⟨_,cx,a⟩:=Qc a;have bi:=(vp (k:=201) rfl rfl (Ki (rr d)) cx);refine Y4 5 rfl (Zb Vk rfl (Ym 1 rfl) (Xx bi)) ad<|Qw 6 rfl (Qd _ ao) ad ?_;have bj:=(rr cm);refine Y4 7 rfl (Zb Jh rfl (Ym 0 rfl) (Xx bj)) ad ?_;obtain ⟨m,bw,a⟩:=Qc a;obtain ⟨bx,bz,a⟩:=Qc a;refine Ua (i:=8) (j:=13) Ga rfl rfl (Yh (vs:=[Gf (sl g (0+0+Int.toNat x4*201) 201),Ge x4,Gf (sl t (0) 7)]) (rv:=(fun p u=>∃ c0 v1,u= .tuple #[Gf c0,v1,Ge m.2.2]∧rep p c0 m.1∧repL p v1 m.2.1)) zhd (Jq rfl rfl rfl) b (qpa b.agree bi bj bw) ?_) (Zn Xm b ?_);intro cy a3 c1 ab bk b;obtain ⟨au,ac,bl,av,bm⟩:=bk;subst bl;refine Yj b (al.trans ab) fun a4=>Qw 9 rfl (Qd (.tuple #[Gf au,ac,Ge m.2.2]) rfl) a4<|Qw 10 rfl (Q3 (v:= Gf au) rfl rfl) a4<|Qw 11 rfl (Q3 (v:=ac) rfl rfl) a4<|Qw 12 rfl (Q3 (v:= Ge m.2.2) rfl rfl) a4 ?_;refine w1 13 rfl (Zn Xm b ?_);intro bn c2 bo b;have ai:rep a3 (Zr.zc GNode) (Zr.zd:GNode):=Zr.zr;refine Yj b (al.trans ab) fun fg=>?_;refine w1 14 rfl (Z8 0 201 b ai av (Lf (rr ai) av) bz ?_);intro bp c3 bq c4 c5 b;refine Yj b (al.trans ab) fun b0=>Qw 15 rfl (Qf (ac) rfl) b0<|Qw 16 rfl (Qf (Ge m.2.2) rfl) b0<|wd<|Qe ?_;exact ⟨a3,bn,bp,bx,ac,m.2.1,m.2.2,ab,b,bq,bo,bm,rfl,a0,ao,bv,rfl,rfl,a⟩;intro bn c2 bo b;have ai:rep M (Zr.zc GNode) (Zr.zd:GNode):=Zr.zr;refine Yj b al fun fh=>?_;refine w1 8 rfl (Yh (vs:=[Gf (sl g (0+0+Int.toNat x4*201) 201),Ge x4,Gf (sl t (0) 7)]) (rv:=(fun p u=>∃ c0 v1,u= .tuple #[Gf c0,v1,Ge m.2.2]∧rep p c0 m.1∧repL p v1 m.2.1)) zhd (Jq rfl rfl rfl) b (qpa b.agree bi bj bw) ?_);intro cy a3 c1 ab bk b;obtain ⟨au,ac,bl,av,bm⟩:=bk;subst bl;replace ai:=Zg ab ai;refine Yj b (al.trans ab) fun a5=>Qw 9 rfl (Qd (.tuple #[Gf au,ac,Ge m.2.2]) rfl) a5<|Qw 10 rfl (Q3 (v:= Gf au) rfl rfl) a5<|Qw 11 rfl (Q3 (v:=ac) rfl rfl) a5<|Qw 12 rfl (Q3 (v:= Ge m.2.2) rfl rfl) a5 ?_;refine w1 14 rfl (Z8 0 201 b ai av (Lf (rr ai) av) bz ?_);intro bp c3 bq c4 c5 b;refine Yj b (al.trans ab) fun b1=>Qw 15 rfl (Qf (ac) rfl) b1<|Qw 16 rfl (Qf (Ge m.2.2) rfl) b1<|wd<|Qe ?_;exact ⟨a3,bn,bp,bx,ac,m.2.1,m.2.2,ab,b,bq,bo,bm,rfl,a0,ao,bv,rfl,rfl,a⟩;rintro _ _ ⟨e,ak,ap,bg,a1,bh,a2,am,b,c6,_,c7,c8,q,y,b2,c9,b3,a⟩;replace d:=Zg am d;replace af:=Zv am.1 af;rw [qqa] at a;refine Qu<|Qz<|Zj b3<|Qa (Yi rfl rfl)<|Qj ?_;refine Q4 a rfl (fun da a=>?_) fun da a=>?_;refine Qz<|Zj b3<|Qa (Qf (Ge a2) rfl)<|Qj ?_;cases a;exact Q2 (Yn rfl rfl ⟨_,e,_,rfl,am,(b.sel (H':=[Gk c g 89,.stk h 9 1 l]) [2,3] E9 rfl),g,h,l,rfl,rfl,d,af,ay⟩);refine Qk<|Qe<|Qu<|Qz<|Zj q<|Zj y<|Qa (Q9 rfl)<|Qa (Qi qzp rfl) ?_;obtain ⟨db,dc,a⟩:=Qn a;refine Qa (Ze q9k rfl rfl db dc) ?_;obtain ⟨dd,de,a⟩:=Qc a;refine Qa (Qh (Ge dd) Z4 rfl (b.bvB 2 rfl) (vp (k:=1) rfl rfl (Ky (rr d)) de))<|Qa (Yx rfl rfl)<|Qj ?_;refine Q4 a rfl (fun df a=>?_) fun df a=>?_;refine Qu<|Ys [Gk c g 89] [20] Z6 b fun fl b dg f=>Qw 0 rfl (Qd _ q) f<|Qw 1 rfl (Qd _ y) f<|Qw 2 rfl (Qd _ q) f<|Qw 3 rfl (Qd _ y) f<|Qw 4 rfl (Q9 rfl) f<|Qw 5 rfl (Qi Xq rfl) f ?_;obtain ⟨dh,di,a⟩:=Qn a;refine Qw 6 rfl (Ze Xr rfl rfl dh di) f ?_;obtain ⟨b4,dj,a⟩:=Qc a;refine Y4 7 rfl (Qh (.string b4) ts9 rfl (Ym 0 rfl) (vp (k:=1) rfl rfl (V5 (rr d)) dj).1) f<|Qw 8 rfl (Qd _ b2) f<|Qw 9 rfl (Qd _ q) f<|Qw 10 rfl (Qd _ y) f<|Qw 11 rfl (Q9 rfl) f<|Qw 12 rfl (Qi qzp rfl) f ?_;obtain ⟨dk,dl,a⟩:=Qn a;refine Qw 13 rfl (Ze q9k rfl rfl dk dl) f ?_;obtain ⟨b5,dm,a⟩:=Qc a;refine Y4 14 rfl (Qh (Ge b5) Z4 rfl (Ym 0 rfl) (vp (k:=1) rfl rfl (Ky (rr d)) dm)) f<|Qw 15 rfl (Ja rfl rfl) f<|Qw 17 rfl (Q9 rfl) f<|Qw 18 rfl (Qi Xq rfl) f ?_;obtain ⟨aw,dn,a⟩:=Qc a;refine w1 16 rfl<|Zi (vs:=[.string b4,.string x6,Ge (IntKind.wrap .i64 (b5-1))]) (v:= .string aw) cb88 (Jq rfl rfl rfl) b (q7v b.agree dn) fun fm b=>Yj b dg fun dp=>?_;obtain ⟨dq,dr,a⟩:=Qn a;refine Qw 19 rfl (Ze Xr rfl rfl dq dr) dp ?_;obtain ⟨_,a6,a⟩:=Qc a;have a6:=Kf a6;obtain ⟨_,b6,a⟩:=Qc a;obtain ⟨_,ds,a⟩:=Qc a;obtain ⟨_,dt,a⟩:=Qc a;have fq:=(Zs b6);refine w1 20 rfl (Z8 2 1 b d (Vw a6:rep e [Value.string aw] aw) (GCluster.u1 (rr d) (vu (k:=1) rfl rfl (V5 (rr d)) (Lf (vp (k:=1) rfl rfl (V5 (rr d)) b6) (Vw a6:rep e [Value.string aw] aw)) ds)) dt ?_);intro _ _ a7 du _ b;have dv:=(du E8).trans ay;refine ⟨nB,?_⟩;refine wd<|Qe<|Qu<|Ys [] [] Z6 b fun fv b br n=>Qw 0 rfl (Qd _ q) n<|Qw 1 rfl (Qd _ y) n<|Qw 2 rfl (Qd _ q) n<|Qw 3 rfl (Qd _ y) n<|Qw 4 rfl (Qd _ q) n<|Qw 5 rfl (Qd _ y) n ?_;obtain ⟨dw,dx,a⟩:=Qc a;obtain ⟨_,dy,b7⟩:∃ cs,qay (([(0,192),(192,1),(193,8)]:List (Nat × Nat))[·]?) (Zr.zc GNode) []=some cs∧rep e cs dw:=⟨_,Yd,Ye (x:=({ entries:=Zr.zd,order:=Zr.zd,values:=Zr.zd }:GNode)) (Zr.zr:rep e (Zr.zc GNode) (Zr.zd:GNode)) dx⟩;refine Qw 6 rfl (Z0 [] zba Vl dy) n<|Qw 7 rfl (Q9 rfl) n<|Qw 8 rfl (Qi qzn rfl) n ?_;obtain ⟨dz,d0,a⟩:=Qn a;refine Qw 9 rfl (Ze q9j rfl rfl dz d0) n<|Qw 11 rfl (Q9 rfl) n<|Qw 12 rfl (Qi qzo rfl) n<|Qw 15 rfl (Q9 rfl) n<|Qw 16 rfl (Qi qzp rfl) n ?_;obtain ⟨_,b9,a⟩:=Qc a;obtain ⟨_,d1,a⟩:=Qc a;obtain ⟨_,d2,a⟩:=Qc a;have f0:=(Zs b9);refine w1 10 rfl (Z8 2 201 b a7 b7 (Ut (rr a7) (vu (k:=201) rfl rfl (Ki (rr a7)) (Lf (vp (k:=201) rfl rfl (Ki (rr a7)) b9) b7) d1)) d2 ?_);intro _ _ a8 d3 _ b;have d4:=(d3 E8).trans dv;refine Yj b br fun d5=>?_;obtain ⟨d6,d7,a⟩:=Qn a;refine Qw 13 rfl (Ze J7 rfl rfl d6 d7) d5 ?_;obtain ⟨_,ca,a⟩:=Qc a;obtain ⟨_,d8,a⟩:=Qc a;obtain ⟨_,d9,a⟩:=Qc a;have f7:=(Zs ca);refine w1 14 rfl (Z8 2 1 b a8 (rb true:rep e _ _) (GCluster.u2 (rr a8) (vu (k:=1) rfl rfl (Kx (rr a8)) (Lf (vp (k:=1) rfl rfl (Kx (rr a8)) ca) (rb true:rep e _ _)) d8)) d9 ?_);intro _ _ a9 ea _ b;have eb:=(ea E8).trans d4;refine Yj b br fun ec=>?_;obtain ⟨ed,ee,a⟩:=Qn a;refine Qw 17 rfl (Ze q9k rfl rfl ed ee) ec ?_;obtain ⟨_,cb,a⟩:=Qc a;obtain ⟨_,ef,a⟩:=Qc a;obtain ⟨_,eg,a⟩:=Qc a;have gg:=(Zs cb);refine w1 18 rfl (Z8 2 1 b a9 (ri 0:rep e _ _) (GCluster.u3 (rr a9) (vu (k:=1) rfl rfl (Ky (rr a9)) (Lf (vp (k:=1) rfl rfl (Ky (rr a9)) cb) (ri 0:rep e _ _)) ef)) eg ?_);intro cc _ eh ei _ b;have ej:=(ei E8).trans eb;refine Yj b br fun gj=>wd<|Qe<|Qz<|Qa (Qf (Ge 6) rfl)<|Qj ?_;cases a;exact Q2 (Yn rfl rfl ⟨_,e,_,rfl,am,(b.sel (H':=[Gk c cc 89,.stk h 9 1 l]) [2,3] E9 rfl),cc,h,l,rfl,rfl,eh,af,ej⟩);refine Qk<|Qe<|Qu<|Qu<|Ys [Gk c g 89] [16] Z6 b fun gk b ek s=>Qw 0 rfl (Qd _ q) s<|Qw 1 rfl (Qd _ y) s<|Qw 2 rfl (Qd _ q) s<|Qw 3 rfl (Qd _ y) s<|Qw 4 rfl (Q9 rfl) s<|Qw 5 rfl (Qi Xq rfl) s ?_;obtain ⟨el,em,a⟩:=Qn a;refine Qw 6 rfl (Ze Xr rfl rfl el em) s ?_;obtain ⟨cd,en,a⟩:=Qc a;refine Y4 7 rfl (Qh (.string cd) ts9 rfl (Ym 0 rfl) (vp (k:=1) rfl rfl (V5 (rr d)) en).1) s<|Qw 8 rfl (Qd _ b2) s<|Qw 13 rfl (Q9 rfl) s<|Qw 14 rfl (Qi Xq rfl) s ?_;obtain ⟨o,eo,a⟩:=Qc a;refine w1 9 rfl<|Zi (vs:=[.string cd,.string x6]) (v:= .tuple #[.string o.1,Ge o.2]) cb89 (Ya rfl rfl) b (qws b.agree eo) fun gl b=>Yj b ek fun ba=>Qw 10 rfl (Qd (.tuple #[.string o.1,Ge o.2]) rfl) ba<|Qw 11 rfl (Q3 (v:= .string o.1) rfl rfl) ba<|Qw 12 rfl (Q3 (v:= Ge o.2) rfl rfl) ba ?_;obtain ⟨ep,er,a⟩:=Qn a;refine Qw 15 rfl (Ze Xr rfl rfl ep er) ba ?_;obtain ⟨_,bb,a⟩:=Qc a;have bb:=Kf bb;obtain ⟨_,ce,a⟩:=Qc a;obtain ⟨_,es,a⟩:=Qc a;obtain ⟨_,et,a⟩:=Qc a;have gp:=(Zs ce);refine w1 16 rfl (Z8 2 1 b d (Vw bb:rep e [Value.string o.1] o.1) (GCluster.u1 (rr d) (vu (k:=1) rfl rfl (V5 (rr d)) (Lf (vp (k:=1) rfl rfl (V5 (rr d)) ce) (Vw bb:rep e [Value.string o.1] o.1)) es)) et ?_);intro cf _ ax eu _ b;have cg:=(eu E8).trans ay;refine ⟨nB,?_⟩;refine wy 17 rfl (Qf (Ge o.2) rfl) nB<|wd<|Qe<|Qz<|Qa (Qd (Ge o.2) rfl)<|Qa (Yi rfl rfl)<|Qj ?_;refine Q4 a rfl (fun ev a=>?_) fun ev a=>?_;refine Qz<|Qv 2 rfl<|Qj ?_;cases a;exact Q2 (Yn rfl rfl ⟨_,e,_,rfl,am,(b.sel (H':=[Gk c cf 89,.stk h 9 1 l]) [2,3] E9 rfl),cf,h,l,rfl,rfl,ax,af,cg⟩);refine Qk<|Qe<|Qu<|Ys [Gk ak ap 37] [] Z6 b fun gs b ew an=>Qw 0 rfl (Qd _ q) an<|Qw 1 rfl (Qd _ y) an ?_;have bs:=(rr c6);refine Y4 2 rfl (Zb Vk c8 (Ym 0 rfl) (Xx bs)) an<|Qw 3 rfl (Q9 rfl) an<|Qw 4 rfl (Qi qzn rfl) an ?_;obtain ⟨ex,ey,a⟩:=Qn a;refine Qw 5 rfl (Ze q9j rfl rfl ex ey) an ?_;obtain ⟨_,ch,a⟩:=Qc a;obtain ⟨_,ez,a⟩:=Qc a;obtain ⟨_,e0,a⟩:=Qc a;have gw:=(Zs ch);refine w1 6 rfl (Z8 2 201 b ax bs (Ut (rr ax) (vu (k:=201) rfl rfl (Ki (rr ax)) (Lf (vp (k:=201) rfl rfl (Ki (rr ax)) ch) bs) ez)) e0 ?_);intro e1 _ e2 e3 _ b;have e4:=(e3 E8).trans cg;refine Yj b ew fun gz=>wd<|Qe<|Qz<|Zj q<|Zj c9 ?_;obtain ⟨ci,e5,a⟩:=Qc a;refine Ql (Yo (vs:=[Gg c,a1]) (L:=[Gk c e1 89,.stk h 9 1 l]) (R:=[Gk ak ap 37,Gk b8 t 82]) (rv:=(fun p u L'=>∃ k0 u1 z,u= .tuple #[]∧L'=[Gk c k0 89,.stk u1 9 1 z]∧rep p k0 ci.1∧skr p u1 z ci.2∧sl k0 1993 1=[u1])) zfo (Ya rfl rfl) b (b.sel [2,3,0,1] E9 rfl) (fun b=>qp8 b e2 af e4 c7 e5) ?_);rintro _ e6 _ _ e7 ⟨cj,ck,cl,rfl,e8,e9,fa,fb⟩ b;replace b:=b _ e8;refine Qj<|Qz<|Qa (Qf (Ge 0) rfl)<|Qj ?_;cases a;exact Q2 (Yn rfl rfl ⟨_,e6,_,rfl,(am.trans e7),(b.sel (H':=[Gk c cj 89,.stk ck 9 1 cl]) [0,1] E9 rfl),cj,ck,cl,rfl,rfl,e9,fa,fb⟩)
def qnx (fu:Nat) (a:GFrame) (b:GCluster) (d:List ByteArray) (f:GCase) (g:List GFrame) (e:Int):Option (GReply × GCluster × (List ByteArray)):=(bif e != 0 then (some ({ code:=e,n:=Zr.zd,values:=Zr.zd }:GReply)).bind fun h=>(some h).bind fun i=>some (i,b,d) else (inR a.id 32).bind fun _=>(qan b.cases a.id).bind fun o=>(qc1 b.cases a.id f).bind fun j=>(some ({ b with cases:=j }:GCluster)).bind fun k=>(qpb fu k d g).bind fun c=>(qri fu c.1 a.id).bind fun l=>(some l).bind fun m=>some (m,c.1,c.2))
def qny (fu:Nat) (a:GFrame) (g:GReply) (c:GCluster) (d:List ByteArray):Option (GReply × GCluster × (List ByteArray)):=(inR a.id 32).bind fun _=>(qan c.cases a.id).bind fun e=>(qmh fu e a.id a).bind fun b=>(some b.1).bind fun f=>qnx fu a c d f b.2.1 b.2.2
def qe6 (fu:Nat) (e:GReply) (f:ByteArray) (c:GCluster) (d:List ByteArray) (b:GFrame) (g:Bool):Option (GReply × GCluster × (List ByteArray)):=(bif g then (qt8 fu c d b.node b f).bind fun a=>(bif a.1 != 0 then (some ({ code:=a.1,n:=Zr.zd,values:=Zr.zd }:GReply)).bind fun h=>(some h).bind fun i=>some (i,a.2.1,a.2.2) else (some ({ code:=Zr.zd,n:=b.id,values:=Zr.zd }:GReply)).bind fun j=>(some j).bind fun k=>some (k,a.2.1,a.2.2)) else qny fu b e c d)
def qic (fu:Nat) (f:GAct) (e:GReply) (b:ByteArray) (c:GCluster) (d:List ByteArray):Option (GReply × GCluster × (List ByteArray)):=(qrh fu b).bind fun g=>(some g.1).bind fun a=>(bif f.kind==4 then (some ({ code:=Zr.zd,n:=a.id,values:=Zr.zd }:GReply)).bind fun h=>(some h).bind fun i=>some (i,c,d) else (bif a.kind==1 then qe6 fu e b c d a true else qe6 fu e b c d a (a.kind==3)))
def qnz (fu:Nat) (c:GCluster) (b:List ByteArray) (a:GAct) (d:GReply):Option (GReply × GCluster × (List ByteArray)):=(idx b a.n).bind fun e=>(bif a.kind != 3 then (zcr b a.n (IntKind.wrap .i64 (a.n+1))).bind fun f=>(some ({ c with net:=Hole.mk }:GCluster)).bind fun g=>qic fu a d e g f else qic fu a d e c b)
def qkd (fu:Nat) (a:GCluster) (b:List ByteArray) (c:GAct) (d:Bool):Option (GReply × GCluster × (List ByteArray)):=(bif d then (some ({ code:=4,n:=Zr.zd,values:=Zr.zd }:GReply)).bind fun e=>(some e).bind fun f=>some (f,a,b) else qnz fu a b c (Zr.zd:GReply))
def qqb (fu:Nat) (x1:GCluster) (l3:List ByteArray) (x4:GAct):Option (GReply × GCluster × (List ByteArray)):=(bif decide (x4.n<0) then qkd fu x1 l3 x4 true else qkd fu x1 l3 x4 (decide (x4.n≥(l3.length:Int))))
theorem q49 {c:Nat} {g:Gl} {f:Value} {h:Gl} {p:Gl} {y:GCluster} {l3:List ByteArray} {q:GAct} {r:GReply × GCluster × (List ByteArray)} (a:St w (qai [Gk c g 89,.stk f 9 1 h]) M [Gk c g 89,.stk f 9 1 h] w) (aq:rep M g y) (ar:skr M f h l3) (bq:sl g 1993 1=[f]) (ad:rep M p q) (b:qqb fu y l3 q=some r) :
    Calls Tryz.prog 31 #[Gg c,Gf p] w (qdq M w [Gk c g 89,.stk f 9 1 h] (fun o u L'=>∃ z k0 u1 y,u=Gf z∧L'=[Gk c k0 89,.stk u1 9 1 y]∧rep o z r.1∧rep o k0 r.2.1∧skr o u1 y r.2.2∧sl k0 1993 1=[u1])):=by
 refine Zm Tryz.func31 115 fun T hT=>?_;have cq:T 0=Gg c:=hT 0;have em:T 1=Gf p:=hT 1;rw [qqb] at b;refine Qz ?_;refine Ql<|Yr (v:= Gf p) (cs:=p) em rfl a fun b6 w5 hi a=>Ql (Zn q9m a ?_);intro t _ _ a;have br:rep M (Zr.zc GReply) (Zr.zd:GReply):=Zr.zr;refine Qj ?_;refine Qp (fun e w'=>∃ a9 ba bk,Mm.ext w.heap.size (qai [Gk c g 89,.stk f 9 1 h]) M a9∧St w (qai [Gk c g 89,.stk f 9 1 h]) a9 [Gk t ba 48,Gk b6 p 29,Gk c g 89,.stk f 9 1 h] w'∧rep a9 ba bk∧e 0=Gg c∧e 3=Gg b6∧e 4=Gg t∧qnz fu y l3 q bk=some r) ?_ ?_;refine Qp (fun e w'=>∃ am cr,Mm.ext w.heap.size (qai [Gk c g 89,.stk f 9 1 h]) M am∧St w (qai [Gk c g 89,.stk f 9 1 h]) am [Gk t (Zr.zc GReply) 48,Gk b6 p 29,Gk c g 89,.stk f 9 1 h] w'∧e 0=Gg c∧e 3=Gg b6∧e 4=Gg t∧e 24= .bool cr∧qkd fu y l3 q cr=some r) ?_ ?_;refine Ys [Gk b6 p 29,Gk c g 89] [] Z6 a fun hl a hm l=>Qw 0 rfl (Qi Vc rfl) l<|Y4 1 rfl (Qh (Ge q.n) Z4 rfl (Ym 0 rfl) (Yu (rr ad))) l<|Qw 2 rfl (Zw rfl rfl) l<|Qw 3 rfl (Qd (.bool (decide (q.n<0))) rfl) l ?_;rcases ic b with ⟨dl,b⟩ | ⟨dl,b⟩<;>rw [dl];refine Vn 4 (j:=3) rfl rfl rfl rfl (fun _=>l)<|Vn 5 (j:=3) rfl rfl rfl rfl (fun _=>l)<|Vn 6 (j:=3) rfl rfl rfl rfl (fun _=>l)<|Vn 7 (j:=3) rfl rfl rfl rfl (fun _=>l)<|Vn 8 (j:=3) rfl rfl rfl rfl (fun _=>l)<|Vn 9 (j:=3) rfl rfl rfl rfl (fun _=>l)<|Vn 10 (j:=3) rfl rfl rfl rfl (fun _=>l)<|Vn 11 (j:=3) rfl rfl rfl rfl (fun _=>l)<|Qw 12 rfl (Zk (.bool true) rfl rfl) l<|wd<|Qe ?_;exact ⟨M,true,(Qb _ _ _),a,cq,rfl,rfl,rfl,b⟩;refine Kn 4 rfl rfl rfl (Qi Vc rfl) (fun _=>l)<|J0 5 rfl rfl rfl (Qh (Ge q.n) Z4 rfl (Ym 0 rfl) (Yu (rr ad))) l<|Kn 6 rfl rfl rfl (Qd _ cq) (fun _=>l)<|Kn 7 rfl rfl rfl (Q9 rfl) (fun _=>l)<|Kn 8 rfl rfl rfl (Qi Xo rfl) (fun _=>l)<|J0 9 rfl rfl rfl (Qh f q63 rfl (Ym 1 rfl) bq) l ?_;obtain ⟨_,_,en,_⟩:=Vx ar;refine Kn 10 rfl rfl rfl (Zh V4 (Vr en rfl)) (fun _=>l)<|Kn 11 rfl rfl rfl (Kh rfl rfl) (fun _=>l)<|Qw 12 rfl (Q5 (.bool (decide (q.n≥(l3.length:Int)))) rfl rfl) l<|wd<|Qe ?_;exact ⟨M,(decide (q.n≥(l3.length:Int))),(Qb _ _ _),a,cq,rfl,rfl,rfl,b⟩;rintro _ _ ⟨am,cr,bs,a,eo,ep,ct,er,b⟩;replace aq:=Zg bs aq;replace ar:=Zv bs.1 ar;replace br:=Zg bs br;rw [qkd] at b;refine Q4 b er (fun es b=>?_) fun es b=>?_;refine Qz ?_;have et:=Jd (Zr.zr:rep am (Zr.zc GReply) (Zr.zd:GReply)) (ri 4:rep am _ _);obtain ⟨eu,ev,b⟩:=Qc b;obtain ⟨_,ew,dm⟩:∃ cs,qay (([(0,1),(1,1),(2,1)]:List (Nat × Nat))[·]?) (Zr.zc GReply) [(0,Ge 4)]=some cs∧rep am cs eu:=⟨_,(Zf (Zr.zr:rep am (Zr.zc GReply) (Zr.zd:GReply)) rfl rfl (Xx (ri 4:rep am _ _)) E9 Yd),Ye (x:=({ code:=4,n:=Zr.zd,values:=Zr.zd }:GReply)) et ev⟩;refine Qa (Z0 [(0,Ge 4)] Uo (Y3 rfl Vl) ew) ?_;obtain ⟨_,ex,b⟩:=Qc b;refine Ql<|Z9 0 3 a rfl br ct rfl dm rfl rfl (Lf (rr br) dm) ex fun ey ht dn hu hv a=>Qj ?_;cases b;exact Q2 (J5 (j:=0) rfl ct (Vz Ko dn) a rfl ⟨_,am,_,rfl,bs,(a.sel (H':=[Gk c g 89,.stk f 9 1 h]) [2,3] E9 rfl),ey,g,f,h,rfl,rfl,dn,aq,ar,bq⟩);refine Qk<|Qe ?_;exact ⟨am,(Zr.zc GReply),(Zr.zd:GReply),bs,a,br,eo,ep,ct,b⟩;rintro _ _ ⟨a9,ba,bk,a0,a,ab,bu,bl,dp,b⟩;replace aq:=Zg a0 aq;replace ar:=Zv a0.1 ar;replace ad:=Zg a0 ad;rw [qnz] at b;refine Qu<|Ug Z6 Ga a<|Yt (Qd _ bu)<|Yt (Q9 rfl)<|Yt (Qi Xo rfl)<|Yt (Qh f q63 rfl (q6v (j:=2) rfl) bq)<|Yt (Qi Vc bl)<|Yt (Qh (Ge q.n) Z4 rfl (q6v (j:=1) rfl) (Yu (rr ad))) ?_;obtain ⟨au,ez,b⟩:=Qc b;obtain ⟨_,e0,_,e1,e2,e3,e4,cu⟩:=Uq (a.skv (j:=3) rfl ar) ez;replace cu:rep _ (sl h (e0+Int.toNat q.n*1) 1) au:=cu;refine Yt (Yp zcp rfl e1 rfl e2 e3)<|Yt (Qh (.string au) ts9 rfl (bvKS (j:=3) rfl e4) cu.1)<|Yt (Qf (.string au) rfl)<|U4 ?_;intro _ a;refine Qe ?_;refine Qp (fun e w'=>∃ bv av bw aw a1 bx,Mm.ext w.heap.size (qai [Gk c g 89,.stk f 9 1 h]) a9 bv∧St w (qai [Gk c g 89,.stk f 9 1 h]) bv [Gk t ba 48,Gk b6 p 29,Gk c av 89,.stk aw 9 1 a1] w'∧rep bv av bw∧skr bv aw a1 bx∧sl av (0+1993) 1=[aw]∧e 0=Gg c∧e 3=Gg b6∧e 4=Gg t∧e 5= .string au∧qic fu q bk au bw bx=some r) ?_ ?_;refine Qz<|Qa (Qi J2 bl)<|Qa (Qh (Ge q.kind) Z4 rfl (a.bvB 1 rfl) (K6 (rr ad)))<|Qa (Yi rfl rfl)<|Qj ?_;refine Q4 b rfl (fun e5 b=>?_) fun e5 b=>?_;refine Ys [Gk b6 p 29,Gk c g 89] [13] Z6 a fun h2 a e6 an=>Qw 0 rfl (Qd _ bu) an<|Qw 1 rfl (Qd _ bu) an<|Qw 2 rfl (Q9 rfl) an<|Qw 3 rfl (Qi Xo rfl) an<|Y4 4 rfl (Qh f q63 rfl (Ym 1 rfl) bq) an<|Qw 5 rfl (Qi Vc bl) an<|Y4 6 rfl (Qh (Ge q.n) Z4 rfl (Ym 0 rfl) (Yu (rr ad))) an<|Qw 7 rfl (Qi Vc bl) an<|Y4 8 rfl (Qh (Ge q.n) Z4 rfl (Ym 0 rfl) (Yu (rr ad))) an<|Qw 9 rfl (Zu rfl rfl) an ?_;obtain ⟨e7,e8,b⟩:=Qc b;refine w1 10 rfl<|ze8 (j:=3) cb60 (Jq rfl rfl rfl) a rfl ar e8 fun e9 fa h3 b5 a=>Yj a e6 fun dq=>Qw 11 rfl (Q9 rfl) dq<|Qw 12 rfl (Qi Xo rfl) dq ?_;obtain ⟨fb,fc,b⟩:=Qc b;refine w1 13 rfl (Z9 2 1 a rfl aq rfl rfl (Jl b5) (U1 b5) rfl (GCluster.u6 (rr aq) (Lf (GCluster.p6 (rr aq)) (Jl b5))) fc ?_);intro fd _ fe _ ff a;have fg:=ff;refine ⟨nB,?_⟩;refine wd<|Qe ?_;exact ⟨a9,fd,fb,e9,fa,e7,(Qb _ _ _),a,fe,b5,fg,bu,bl,dp,rfl,b⟩;refine Qk<|Qe ?_;exact ⟨a9,g,y,f,h,l3,(Qb _ _ _),a,aq,ar,bq,bu,bl,dp,rfl,b⟩;rintro _ _ ⟨bv,av,bw,aw,a1,bx,bb,a,bc,bd,cv,dr,fh,b7,cw,b⟩;rw [qic] at b;refine Qz<|Zj cw ?_;obtain ⟨bz,fi,b⟩:=Qc b;refine Ql (Yh (vs:=[.string au]) (rv:=(fun o u=>∃ z,u= .tuple #[Gf z,Ge bz.2]∧rep o z bz.1)) cb61 (Zl rfl) a (qz3 a.agree fi) ?_);intro _ ah _ ax fj a;obtain ⟨ds,fk,dt⟩:=fj;subst fk;replace ad:=Zg (bb.trans ax) ad;replace ab:=Zg (bb.trans ax) ab;replace bc:=Zg ax bc;replace bd:=Zv ax.1 bd;refine Qa (Qd (.tuple #[Gf ds,Ge bz.2]) rfl)<|Qa (Q3 (v:= Gf ds) rfl rfl)<|Qa (Q3 (v:= Ge bz.2) rfl rfl) ?_;refine Ql (Zn q59 a ?_);intro ai _ _ a;have du:rep ah (Zr.zc GFrame) (Zr.zd:GFrame):=Zr.zr;obtain ⟨d,fl,b⟩:=Qc b;refine Ql (Z8 0 7 a du dt (Lf (rr du) dt) fl ?_);intro aj _ m _ _ a;refine Qa (Qf (Ge bz.2) rfl)<|Qj<|Qu<|Qz<|Qa (Qi J2 fh)<|Qa (Qh (Ge q.kind) Z4 rfl (a.bvB 2 rfl) (K6 (rr ad)))<|Qa (Z5 rfl rfl)<|Qj ?_;refine Q4 b rfl (fun fm b=>?_) fun fm b=>?_;refine Qz<|Qa (Qi Yw rfl)<|Qa (Qh (Ge d.id) Z4 rfl (a.bvB 0 rfl) (Z3 (rr m))) ?_;have fn:=Jg (Zr.zr:rep ah (Zr.zc GReply) (Zr.zd:GReply)) (ri d.id:rep ah _ _);obtain ⟨fo,fp,b⟩:=Qc b;obtain ⟨_,fq,dv⟩:∃ cs,qay (([(0,1),(1,1),(2,1)]:List (Nat × Nat))[·]?) (Zr.zc GReply) [(1,Ge d.id)]=some cs∧rep ah cs fo:=⟨_,(Zf (Zr.zr:rep ah (Zr.zc GReply) (Zr.zd:GReply)) rfl rfl (Xx (ri d.id:rep ah _ _)) E9 Yd),Ye (x:=({ code:=Zr.zd,n:=d.id,values:=Zr.zd }:GReply)) fn fp⟩;refine Qa (Z0 [(1,Ge d.id)] Uo (Y3 rfl Vl) fq) ?_;obtain ⟨_,fr,b⟩:=Qc b;refine Ql<|Z9 1 3 a rfl ab b7 rfl dv rfl rfl (Lf (rr ab) dv) fr fun fs ik dw il im a=>Qj ?_;cases b;exact Q2 (J5 (j:=1) rfl b7 (Vz Ko dw) a rfl ⟨_,ah,_,rfl,(a0.trans (bb.trans ax)),(a.sel (H':=[Gk c av 89,.stk aw 9 1 a1]) [3,4] E9 rfl),fs,av,aw,a1,rfl,rfl,dw,bc,bd,cv⟩);refine Qk<|Qe ?_;refine Qp (fun e w'=>∃ a2 bm cx ao b9 a3 be ca,Mm.ext w.heap.size (qai [Gk c g 89,.stk f 9 1 h]) ah a2∧St w (qai [Gk c g 89,.stk f 9 1 h]) a2 [Gk ai aj 82,Gk t bm 48,Gk b6 p 29,Gk c ao 89,.stk a3 9 1 be] w'∧rep a2 bm cx∧rep a2 ao b9∧skr a2 a3 be ca∧sl ao (0+1993) 1=[a3]∧e 0=Gg c∧e 4=Gg t∧e 6=Gg ai∧qny fu d cx b9 ca=some r) ?_ ?_;refine Qp (fun e w'=>∃ cb cy,Mm.ext w.heap.size (qai [Gk c g 89,.stk f 9 1 h]) ah cb∧St w (qai [Gk c g 89,.stk f 9 1 h]) cb [Gk ai aj 82,Gk t ba 48,Gk b6 p 29,Gk c av 89,.stk aw 9 1 a1] w'∧e 0=Gg c∧e 4=Gg t∧e 5= .string au∧e 6=Gg ai∧e 68= .bool cy∧qe6 fu bk au bw bx d cy=some r) ?_ ?_;refine Q1<|Qa (Qi Vf rfl)<|Qa (Qh (Ge d.kind) Z4 rfl (a.bvB 0 rfl) (Yf (rr m)))<|Qa (Z5 rfl rfl)<|Qa (Qd (.bool (d.kind==1)) rfl) ?_;rcases ic b with ⟨dx,b⟩ | ⟨dx,b⟩<;>rw [dx];refine Qv 4 rfl<|Qj ?_;exact ⟨ah,true,(Qb _ _ _),a,dr,b7,cw,rfl,rfl,b⟩;refine Qg rfl rfl (Qi Vf rfl)<|Qg rfl rfl (Qh (Ge d.kind) Z4 rfl (a.bvB 0 rfl) (Yf (rr m)))<|Qg rfl rfl (Z5 rfl rfl)<|Qa (Q5 (.bool (d.kind==3)) rfl rfl)<|Qj ?_;exact ⟨ah,(d.kind==3),(Qb _ _ _),a,dr,b7,cw,rfl,rfl,b⟩;rintro _ _ ⟨cb,cy,bg,a,dy,b0,ft,cc,fv,b⟩;replace ab:=Zg bg ab;replace bc:=Zg bg bc;replace bd:=Zv bg.1 bd;replace m:=Zg bg m;rw [qe6] at b;refine Q4 b fv (fun fw b=>?_) fun fw b=>?_;refine Qu<|Qz<|Zj dy<|Qa (Qi Kq cc)<|Qa (Qh (Ge d.node) Z4 rfl (a.bvB 0 rfl) (Y7 (rr m))) ?_;have dz:=(rr m);refine Qa (Zb Jh cc (a.bvB 0 rfl) (Xx dz))<|Zj ft ?_;obtain ⟨ak,fx,b⟩:=Qc b;refine Ql (Yo (vs:=[Gg c,Ge d.node,Gf (sl aj (0) 7),.string au]) (L:=[Gk c av 89,.stk aw 9 1 a1]) (R:=[Gk ai aj 82,Gk t ba 48,Gk b6 p 29]) (rv:=(fun o u L'=>∃ k0 u1 y,u=Ge ak.1∧L'=[Gk c k0 89,.stk u1 9 1 y]∧rep o k0 ak.2.1∧skr o u1 y ak.2.2∧sl k0 1993 1=[u1])) cb62 (q6n rfl rfl rfl rfl) a (a.sel [3,4,0,1,2] E9 rfl) (fun a=>q7y a bc bd cv dz fx) ?_);rintro _ ac _ _ cd ⟨ce,cf,cg,rfl,fy,d0,d1,d2⟩ a;replace a:=a _ fy;replace ab:=Zg cd ab;replace m:=Zg cd m;refine Qa (Qf (Ge ak.1) rfl)<|Qj<|Qz<|Qa (Qd (Ge ak.1) rfl)<|Qa (Yi rfl rfl)<|Qj ?_;refine Q4 b rfl (fun fz b=>?_) fun fz b=>?_;refine Qz<|Qa (Qd (Ge ak.1) rfl) ?_;have f0:=Jd (Zr.zr:rep ac (Zr.zc GReply) (Zr.zd:GReply)) (ri ak.1:rep ac _ _);obtain ⟨f1,f2,b⟩:=Qc b;obtain ⟨_,f3,d3⟩:∃ cs,qay (([(0,1),(1,1),(2,1)]:List (Nat × Nat))[·]?) (Zr.zc GReply) [(0,Ge ak.1)]=some cs∧rep ac cs f1:=⟨_,(Zf (Zr.zr:rep ac (Zr.zc GReply) (Zr.zd:GReply)) rfl rfl (Xx (ri ak.1:rep ac _ _)) E9 Yd),Ye (x:=({ code:=ak.1,n:=Zr.zd,values:=Zr.zd }:GReply)) f0 f2⟩;refine Qa (Z0 [(0,Ge ak.1)] Uo (Y3 rfl Vl) f3) ?_;obtain ⟨_,f4,b⟩:=Qc b;refine Ql<|Z9 3 3 a rfl ab b0 rfl d3 rfl rfl (Lf (rr ab) d3) f4 fun f5 ix d4 iy iz a=>Qj ?_;cases b;exact Q2 (J5 (j:=3) rfl b0 (Vz Ko d4) a rfl ⟨_,ac,_,rfl,(a0.trans (bb.trans (ax.trans (bg.trans cd)))),(a.sel (H':=[Gk c ce 89,.stk cf 9 1 cg]) [0,1] E9 rfl),f5,ce,cf,cg,rfl,rfl,d4,d0,d1,d2⟩);refine Qk<|Qe<|Qz<|Qa (Qi Yw cc)<|Qa (Qh (Ge d.id) Z4 rfl (a.bvB 2 rfl) (Z3 (rr m))) ?_;have f6:=Jg (Zr.zr:rep ac (Zr.zc GReply) (Zr.zd:GReply)) (ri d.id:rep ac _ _);obtain ⟨f7,f8,b⟩:=Qc b;obtain ⟨_,ga,d5⟩:∃ cs,qay (([(0,1),(1,1),(2,1)]:List (Nat × Nat))[·]?) (Zr.zc GReply) [(1,Ge d.id)]=some cs∧rep ac cs f7:=⟨_,(Zf (Zr.zr:rep ac (Zr.zc GReply) (Zr.zd:GReply)) rfl rfl (Xx (ri d.id:rep ac _ _)) E9 Yd),Ye (x:=({ code:=Zr.zd,n:=d.id,values:=Zr.zd }:GReply)) f6 f8⟩;refine Qa (Z0 [(1,Ge d.id)] Uo (Y3 rfl Vl) ga) ?_;obtain ⟨_,gb,b⟩:=Qc b;refine Ql<|Z9 3 3 a rfl ab b0 rfl d5 rfl rfl (Lf (rr ab) d5) gb fun gc i2 d6 i3 i4 a=>Qj ?_;cases b;exact Q2 (J5 (j:=3) rfl b0 (Vz Ko d6) a rfl ⟨_,ac,_,rfl,(a0.trans (bb.trans (ax.trans (bg.trans cd)))),(a.sel (H':=[Gk c ce 89,.stk cf 9 1 cg]) [0,1] E9 rfl),gc,ce,cf,cg,rfl,rfl,d6,d0,d1,d2⟩);refine Qk<|Qe ?_;exact ⟨cb,ba,bk,av,bw,aw,a1,bx,bg,a,ab,bc,bd,cv,dy,b0,cc,b⟩;rintro _ _ ⟨a2,bm,cx,ao,b9,a3,be,ca,c1,a,a4,a5,ch,d7,c2,d8,b1,b⟩;replace m:=Zg c1 m;rw [qny] at b;refine Qp (fun e w'=>∃ al bh bn c3 ci c4 a6,Mm.ext w.heap.size (qai [Gk c g 89,.stk f 9 1 h]) a2 al∧St w (qai [Gk c g 89,.stk f 9 1 h]) al [Gk bh bn 62,Gk ai aj 82,Gk t bm 48,Gk b6 p 29,Gk c ao 89,.stk a3 9 1 be] w'∧rep al bn c3∧w.heap.size≤bh∧repL al ci c4∧e 9=Gg bh∧e 0=Gg c∧e 4=Gg t∧e 6=Gg ai∧e 10=ci∧e 11=Ge a6∧qnx fu d b9 ca c3 c4 a6=some r) ?_ ?_;refine Ys [Gk ai aj 82,Gk c ao 89] [] Z6 a fun i7 a bo ap=>Qw 0 rfl (Qd _ c2) ap<|Qw 1 rfl (Qi Yw b1) ap<|Y4 2 rfl (Qh (Ge d.id) Z4 rfl (Ym 0 rfl) (Z3 (rr m))) ap<|Qw 3 rfl (Q9 rfl) ap<|Qw 4 rfl (Qi qzq rfl) ap ?_;obtain ⟨ge,gf,b⟩:=Qn b;refine Qw 5 rfl (Ze zej rfl rfl ge gf) ap ?_;obtain ⟨_,gg,b⟩:=Qc b;have c5:=(vp (k:=24) rfl rfl (Jf (rr a5)) gg);refine Y4 6 rfl (Zb Vd rfl (Ym 1 rfl) (Xx c5)) ap<|Qw 7 rfl (Qi Yw b1) ap<|Y4 8 rfl (Qh (Ge d.id) Z4 rfl (Ym 0 rfl) (Z3 (rr m))) ap ?_;have c6:=(rr m);refine Y4 9 rfl (Zb Jh b1 (Ym 0 rfl) (Xx c6)) ap ?_;obtain ⟨s,d9,b⟩:=Qc b;obtain ⟨ea,eb,b⟩:=Qc b;refine Ua (i:=10) (j:=15) Ga rfl rfl (Yh (vs:=[Gf (sl ao (0+1224+Int.toNat d.id*24) 24),Ge d.id,Gf (sl aj (0) 7)]) (rv:=(fun o u=>∃ z v1,u= .tuple #[Gf z,v1,Ge s.2.2]∧rep o z s.1∧repL o v1 s.2.1)) cb63 (Jq rfl rfl rfl) a (qt5 a.agree c5 c6 d9) ?_) (Zn Xl a ?_);intro gh cj gi ay c7 a;obtain ⟨b3,az,c8,b4,c9⟩:=c7;subst c8;refine Yj a (bo.trans ay) fun ck=>Qw 11 rfl (Qd (.tuple #[Gf b3,az,Ge s.2.2]) rfl) ck<|Qw 12 rfl (Q3 (v:= Gf b3) rfl rfl) ck<|Qw 13 rfl (Q3 (v:=az) rfl rfl) ck<|Qw 14 rfl (Q3 (v:= Ge s.2.2) rfl rfl) ck ?_;refine w1 15 rfl (Zn Xl a ?_);intro da gj db a;have bi:rep cj (Zr.zc GCase) (Zr.zd:GCase):=Zr.zr;refine Yj a (bo.trans ay) fun i9=>?_;refine w1 16 rfl (Z8 0 24 a bi b4 (Lf (rr bi) b4) eb ?_);intro dc gk dd gl gm a;refine Yj a (bo.trans ay) fun ec=>Qw 17 rfl (Qf (az) rfl) ec<|Qw 18 rfl (Qf (Ge s.2.2) rfl) ec<|wd<|Qe ?_;exact ⟨cj,da,dc,ea,az,s.2.1,s.2.2,ay,a,dd,db,c9,rfl,c2,d8,b1,rfl,rfl,b⟩;intro da gj db a;have bi:rep a2 (Zr.zc GCase) (Zr.zd:GCase):=Zr.zr;refine Yj a bo fun ja=>?_;refine w1 10 rfl (Yh (vs:=[Gf (sl ao (0+1224+Int.toNat d.id*24) 24),Ge d.id,Gf (sl aj (0) 7)]) (rv:=(fun o u=>∃ z v1,u= .tuple #[Gf z,v1,Ge s.2.2]∧rep o z s.1∧repL o v1 s.2.1)) cb63 (Jq rfl rfl rfl) a (qt5 a.agree c5 c6 d9) ?_);intro gh cj gi ay c7 a;obtain ⟨b3,az,c8,b4,c9⟩:=c7;subst c8;replace bi:=Zg ay bi;refine Yj a (bo.trans ay) fun cl=>Qw 11 rfl (Qd (.tuple #[Gf b3,az,Ge s.2.2]) rfl) cl<|Qw 12 rfl (Q3 (v:= Gf b3) rfl rfl) cl<|Qw 13 rfl (Q3 (v:=az) rfl rfl) cl<|Qw 14 rfl (Q3 (v:= Ge s.2.2) rfl rfl) cl ?_;refine w1 16 rfl (Z8 0 24 a bi b4 (Lf (rr bi) b4) eb ?_);intro dc gk dd gl gm a;refine Yj a (bo.trans ay) fun ed=>Qw 17 rfl (Qf (az) rfl) ed<|Qw 18 rfl (Qf (Ge s.2.2) rfl) ed<|wd<|Qe ?_;exact ⟨cj,da,dc,ea,az,s.2.1,s.2.2,ay,a,dd,db,c9,rfl,c2,d8,b1,rfl,rfl,b⟩;rintro _ _ ⟨al,bh,bn,c3,ci,c4,a6,bp,a,gn,_,go,gp,de,cm,ee,gq,ef,b⟩;replace m:=Zg bp m;replace a4:=Zg bp a4;replace a5:=Zg bp a5;replace ch:=Zv bp.1 ch;rw [qnx] at b;refine Qu<|Qz<|Zj ef<|Qa (Yi rfl rfl)<|Qj ?_;refine Q4 b rfl (fun gr b=>?_) fun gr b=>?_;refine Qz<|Zj ef ?_;have gs:=Jd (Zr.zr:rep al (Zr.zc GReply) (Zr.zd:GReply)) (ri a6:rep al _ _);obtain ⟨gt,gu,b⟩:=Qc b;obtain ⟨_,gv,eg⟩:∃ cs,qay (([(0,1),(1,1),(2,1)]:List (Nat × Nat))[·]?) (Zr.zc GReply) [(0,Ge a6)]=some cs∧rep al cs gt:=⟨_,(Zf (Zr.zr:rep al (Zr.zc GReply) (Zr.zd:GReply)) rfl rfl (Xx (ri a6:rep al _ _)) E9 Yd),Ye (x:=({ code:=a6,n:=Zr.zd,values:=Zr.zd }:GReply)) gs gu⟩;refine Qa (Z0 [(0,Ge a6)] Uo (Y3 rfl Vl) gv) ?_;obtain ⟨_,gw,b⟩:=Qc b;refine Ql<|Z9 2 3 a rfl a4 cm rfl eg rfl rfl (Lf (rr a4) eg) gw fun gx jg eh jh ji a=>Qj ?_;cases b;exact Q2 (J5 (j:=2) rfl cm (Vz Ko eh) a rfl ⟨_,al,_,rfl,(a0.trans (bb.trans (ax.trans (c1.trans bp)))),(a.sel (H':=[Gk c ao 89,.stk a3 9 1 be]) [4,5] E9 rfl),gx,ao,a3,be,rfl,rfl,eh,a5,ch,d7⟩);refine Qk<|Qe<|Qu<|Ys [Gk bh bn 62,Gk ai aj 82] [] Z6 a fun jj a gy bj=>Qw 0 rfl (Qd _ de) bj<|Qw 1 rfl (Qi Yw ee) bj<|Y4 2 rfl (Qh (Ge d.id) Z4 rfl (Ym 1 rfl) (Z3 (rr m))) bj ?_;have df:=(rr gn);refine Y4 3 rfl (Zb Vd gp (Ym 0 rfl) (Xx df)) bj<|Qw 4 rfl (Q9 rfl) bj<|Qw 5 rfl (Qi qzq rfl) bj ?_;obtain ⟨gz,g1,b⟩:=Qn b;refine Qw 6 rfl (Ze zej rfl rfl gz g1) bj ?_;obtain ⟨_,ei,b⟩:=Qc b;obtain ⟨_,g2,b⟩:=Qc b;obtain ⟨_,g3,b⟩:=Qc b;have jn:=(Zs ei);refine w1 7 rfl (Z8 4 24 a a5 df (GCluster.u4 (rr a5) (vu (k:=24) rfl rfl (Jf (rr a5)) (Lf (vp (k:=24) rfl rfl (Jf (rr a5)) ei) df) g2)) g3 ?_);intro g4 _ g5 g6 _ a;have g7:=(g6 E8).trans d7;refine Yj a gy fun jq=>wd<|Qe<|Qz<|Zj de<|Zj gq ?_;obtain ⟨ej,g8,b⟩:=Qc b;refine Ql (Yo (vs:=[Gg c,ci]) (L:=[Gk c g4 89,.stk a3 9 1 be]) (R:=[Gk bh bn 62,Gk ai aj 82,Gk t bm 48,Gk b6 p 29]) (rv:=(fun o u L'=>∃ k0 u1 y,u= .tuple #[]∧L'=[Gk c k0 89,.stk u1 9 1 y]∧rep o k0 ej.1∧skr o u1 y ej.2∧sl k0 1993 1=[u1])) zfo (Ya rfl rfl) a (a.sel [4,5,0,1,2,3] E9 rfl) (fun a=>qp8 a g5 ch g7 go g8) ?_);rintro _ _ _ _ dg ⟨cn,dh,di,rfl,g9,co,dj,ha⟩ a;replace a:=a _ g9;replace m:=Zg dg m;refine Qj<|Qz<|Zj de<|Qa (Qi Yw ee)<|Qa (Qh (Ge d.id) Z4 rfl (a.bvB 3 rfl) (Z3 (rr m))) ?_;obtain ⟨hb,hc,b⟩:=Qc b;refine Ql (Yo (vs:=[Gg c,Ge d.id]) (L:=[Gk c cn 89]) (R:=[.stk dh 9 1 di,Gk bh bn 62,Gk ai aj 82,Gk t bm 48,Gk b6 p 29]) (rv:=(fun o u L'=>∃ z,u=Gf z∧L'=[Gk c cn 89]∧rep o z hb)) cb34 (Ya rfl rfl) a (a.sel [0,1,2,3,4,5] E9 rfl) (fun a=>qz5 a co hc) ?_);rintro _ hd _ _ cp ⟨_,rfl,he,ek⟩ a;replace a:=a _ he;replace a4:=Zg (dg.trans cp) a4;replace co:=Zg cp co;replace dj:=Zv cp.1 dj;obtain ⟨_,hf,b⟩:=Qc b;refine Ql<|Z9 4 3 a rfl a4 cm rfl ek rfl rfl (Lf (rr a4) ek) hf fun hg j0 el j1 j2 a=>Qj ?_;cases b;exact Q2 (J5 (j:=4) rfl cm (Vz Ko el) a rfl ⟨_,hd,_,rfl,(a0.trans (bb.trans (ax.trans (c1.trans (bp.trans (dg.trans cp)))))),(a.sel (H':=[Gk c cn 89,.stk dh 9 1 di]) [0,1] E9 rfl),hg,cn,dh,di,rfl,rfl,el,co,dj,ha⟩)
def qid (e:GReply) (a:GCluster) (b:List ByteArray):Option (GReply × GCluster × (List ByteArray)):=(some ({ code:=Zr.zd,n:=Zr.zd,values:=Zr.zd }:GReply)).bind fun c=>(some c).bind fun d=>some (d,a,b)
def qdg (fu:Nat) (b:GCluster) (c:List ByteArray) (a:GAct) (j:Bool):Option (GReply × GCluster × (List ByteArray)):=(bif j then (some ({ code:=2,n:=Zr.zd,values:=Zr.zd }:GReply)).bind fun k=>(some k).bind fun l=>some (l,b,c) else (inR a.n 6).bind fun _=>(qan b.down a.n).bind fun o=>(bif !(o==(a.kind==8)) then (some ({ code:=6,n:=Zr.zd,values:=Zr.zd }:GReply)).bind fun p=>(some p).bind fun q=>some (q,b,c) else (bif a.kind==7 then (inR a.n 6).bind fun _=>(qan b.tear a.n).bind fun af=>(qc1 b.tear a.n (IntKind.wrap .i64 (a.m+1))).bind fun r=>(some ({ b with tear:=r }:GCluster)).bind fun s=>qid (Zr.zd:GReply) s c else (bif a.kind==6 then (some ({ entries:=Zr.zd,order:=Zr.zd,values:=Zr.zd }:GNode)).bind fun t=>(inR a.n 6).bind fun _=>(qan b.nodes a.n).bind fun ag=>(qc1 b.nodes a.n t).bind fun u=>(some ({ b with nodes:=u }:GCluster)).bind fun d=>(inR a.n 6).bind fun _=>(qan d.down a.n).bind fun ah=>(qc1 d.down a.n true).bind fun v=>(some ({ d with down:=v }:GCluster)).bind fun e=>(inR a.n 6).bind fun _=>(qan e.tear a.n).bind fun ai=>(qc1 e.tear a.n 0).bind fun w=>(some ({ e with tear:=w }:GCluster)).bind fun x=>qid (Zr.zd:GReply) x c else (inR a.n 6).bind fun _=>(qan b.logs a.n).bind fun y=>(qyc fu y).bind fun h=>(inR a.n 6).bind fun _=>(qan b.logs a.n).bind fun z=>(qr4 z none (some h.2)).bind fun i=>(inR a.n 6).bind fun _=>(q1p i).bind fun _=>(qan b.logs a.n).bind fun aj=>(qc1 b.logs a.n i).bind fun aa=>(some ({ b with logs:=aa }:GCluster)).bind fun f=>(qgh fu a.n h.1).bind fun ab=>(inR a.n 6).bind fun _=>(qan f.nodes a.n).bind fun ak=>(qc1 f.nodes a.n ab.1).bind fun ac=>(some ({ f with nodes:=ac }:GCluster)).bind fun g=>(inR a.n 6).bind fun _=>(qan g.down a.n).bind fun al=>(qc1 g.down a.n false).bind fun ad=>(some ({ g with down:=ad }:GCluster)).bind fun ae=>qid (Zr.zd:GReply) ae c))))
def qqc (fu:Nat) (x1:GCluster) (l3:List ByteArray) (x4:GAct):Option (GReply × GCluster × (List ByteArray)):=(bif decide (x4.n<0) then qdg fu x1 l3 x4 true else (bif decide (x4.n≥6) then qdg fu x1 l3 x4 true else (bif x4.kind==7 then (bif decide (x4.m<0) then qdg fu x1 l3 x4 true else qdg fu x1 l3 x4 (decide (x4.m>400))) else qdg fu x1 l3 x4 false)))
theorem q5a {f:Nat} {o:Gl} {g:Value} {i:Gl} {ad:Gl} {x1:GCluster} {l3:List ByteArray} {c:GAct} {r:GReply × GCluster × (List ByteArray)} (b:St w (qai [Gk f o 89,.stk g 9 1 i]) M [Gk f o 89,.stk g 9 1 i] w) (e:rep M o x1) (aa:skr M g i l3) (aq:sl o 1993 1=[g]) (y:rep M ad c) (a:qqc fu x1 l3 c=some r) :
    Calls Tryz.prog 35 #[Gg f,Gf ad] w (qdq M w [Gk f o 89,.stk g 9 1 i] (fun M' u L'=>∃ c0 k0 u1 x1,u=Gf c0∧L'=[Gk f k0 89,.stk u1 9 1 x1]∧rep M' c0 r.1∧rep M' k0 r.2.1∧skr M' u1 x1 r.2.2∧sl k0 1993 1=[u1])):=by
 refine Zm Tryz.func35 117 fun T hT=>?_;have au:T 0=Gg f:=hT 0;have ch:T 1=Gf ad:=hT 1;rw [qqc] at a;refine Qz ?_;refine Ql<|Yr (v:= Gf ad) (cs:=ad) ch rfl b fun b6 w5 fh b=>Ql (Zn q9m b ?_);intro b8 _ _ b;have s:rep M (Zr.zc GReply) (Zr.zd:GReply):=Zr.zr;refine Qj<|Qz<|Qa (Qi Vc rfl)<|Qa (Qh (Ge c.n) Z4 rfl (b.bvB 1 rfl) (Yu (rr y)))<|Qa (Qf (Ge c.n) rfl)<|Qj ?_;refine Qp (fun T' w'=>∃ ab bb bc ak bd al av be,Mm.ext w.heap.size (qai [Gk f o 89,.stk g 9 1 i]) M ab∧St w (qai [Gk f o 89,.stk g 9 1 i]) ab [Gk b8 bb 48,Gk b6 ad 29,Gk f ak 89,.stk al 9 1 av] w'∧rep ab bb bc∧rep ab ak bd∧skr ab al av be∧sl ak (0+1993) 1=[al]∧T' 4=Gg b8∧qid bc bd be=some r) ?_ ?_;refine Qs ?_;refine Qp (fun T' w'=>∃ d bg,Mm.ext w.heap.size (qai [Gk f o 89,.stk g 9 1 i]) M d∧St w (qai [Gk f o 89,.stk g 9 1 i]) d [Gk b8 (Zr.zc GReply) 48,Gk b6 ad 29,Gk f o 89,.stk g 9 1 i] w'∧T' 0=Gg f∧T' 3=Gg b6∧T' 4=Gg b8∧T' 5=Ge c.n∧T' 49= .bool bg∧qdg fu x1 l3 c bg=some r) ?_ ?_;refine Q1<|Qa (Qd (Ge c.n) rfl)<|Qa (Zw rfl rfl)<|Qa (Qd (.bool (decide (c.n<0))) rfl) ?_;rcases ic a with ⟨bl,a⟩ | ⟨bl,a⟩<;>rw [bl];refine Qv 19 rfl<|Qj ?_;exact ⟨M,true,(Qb _ _ _),b,au,rfl,rfl,rfl,rfl,a⟩;refine Qg rfl rfl (Qd (Ge c.n) rfl)<|Qg rfl rfl (Kh rfl rfl)<|Qv 2 rfl ?_;rcases ic a with ⟨bm,a⟩ | ⟨bm,a⟩<;>rw [bm];refine Qv 15 rfl<|Qj ?_;exact ⟨M,true,(Qb _ _ _),b,au,rfl,rfl,rfl,rfl,a⟩;refine Qg rfl rfl (Qi J2 rfl)<|Qg rfl rfl (Qh (Ge c.kind) Z4 rfl (b.bvB 1 rfl) (K6 (rr y)))<|Qg rfl rfl (Z5 rfl rfl)<|Qg rfl rfl (Qd (.bool (c.kind==7)) rfl) ?_;rcases ic a with ⟨bn,a⟩ | ⟨bn,a⟩<;>rw [bn];refine Qg rfl rfl (Qi qwj rfl)<|Qg rfl rfl (Qh (Ge c.m) Z4 rfl (b.bvB 1 rfl) (Xd (rr y)))<|Qg rfl rfl (Zw rfl rfl)<|Qg rfl rfl (Qd (.bool (decide (c.m<0))) rfl) ?_;rcases ic a with ⟨bo,a⟩ | ⟨bo,a⟩<;>rw [bo];refine Qv 3 rfl<|Qg rfl rfl (Zk (.bool true) rfl rfl)<|Qg rfl rfl (Zk (.bool true) rfl rfl)<|Qv 2 rfl<|Qj ?_;exact ⟨M,true,(Qb _ _ _),b,au,rfl,rfl,rfl,rfl,a⟩;refine Qg rfl rfl (Qi qwj rfl)<|Qg rfl rfl (Qh (Ge c.m) Z4 rfl (b.bvB 1 rfl) (Xd (rr y)))<|Qg rfl rfl (Yx rfl rfl)<|Qg rfl rfl (Q5 (.bool (decide (c.m>400))) rfl rfl)<|Qg rfl rfl (Zk (.bool (decide (c.m>400))) rfl rfl)<|Qv 2 rfl<|Qj ?_;exact ⟨M,(decide (c.m>400)),(Qb _ _ _),b,au,rfl,rfl,rfl,rfl,a⟩;refine Qv 8 rfl<|Qg rfl rfl (Q5 (.bool false) rfl rfl)<|Qv 2 rfl<|Qj ?_;exact ⟨M,false,(Qb _ _ _),b,au,rfl,rfl,rfl,rfl,a⟩;rintro _ _ ⟨d,bg,ac,b,z,ay,ah,t,ci,a⟩;replace e:=Zg ac e;replace aa:=Zv ac.1 aa;replace y:=Zg ac y;replace s:=Zg ac s;rw [qdg] at a;refine Q4 a ci (fun cj a=>?_) fun cj a=>?_;refine Qz ?_;have ck:=Jd (Zr.zr:rep d (Zr.zc GReply) (Zr.zd:GReply)) (ri 2:rep d _ _);obtain ⟨cl,cm,a⟩:=Qc a;obtain ⟨_,cn,bp⟩:∃ cs,qay (([(0,1),(1,1),(2,1)]:List (Nat × Nat))[·]?) (Zr.zc GReply) [(0,Ge 2)]=some cs∧rep d cs cl:=⟨_,(Zf (Zr.zr:rep d (Zr.zc GReply) (Zr.zd:GReply)) rfl rfl (Xx (ri 2:rep d _ _)) E9 Yd),Ye (x:=({ code:=2,n:=Zr.zd,values:=Zr.zd }:GReply)) ck cm⟩;refine Qa (Z0 [(0,Ge 2)] Uo (Y3 rfl Vl) cn) ?_;obtain ⟨_,co,a⟩:=Qc a;refine Ql<|Z9 0 3 b rfl s ah rfl bp rfl rfl (Lf (rr s) bp) co fun cp fo bq fp fq b=>Qj ?_;cases a;exact Q2 (J5 (j:=0) rfl ah (Vz Ko bq) b rfl ⟨_,d,_,rfl,ac,(b.sel (H':=[Gk f o 89,.stk g 9 1 i]) [2,3] E9 rfl),cp,o,g,i,rfl,rfl,bq,e,aa,aq⟩);refine Qu<|Ug Z6 Ga b<|Yt (Qd _ z)<|Yt (Qd _ t)<|Yt (Q9 rfl)<|Yt (Qi qzo rfl) ?_;obtain ⟨cq,cr,a⟩:=Qn a;refine Yt (Ze J7 rfl rfl cq cr) ?_;obtain ⟨br,ct,a⟩:=Qc a;refine Yt (Qh (.bool br) Ji rfl (q6v (j:=2) rfl) (vp (k:=1) rfl rfl (Kx (rr e)) ct))<|Yt (Qi J2 ay)<|Yt (Qh (Ge c.kind) Z4 rfl (q6v (j:=1) rfl) (K6 (rr y)))<|Yt (Z5 rfl rfl)<|Yt (q84 rfl rfl V8)<|Yt (Qf (.bool (!(br==(c.kind==8)))) rfl)<|U4 ?_;intro _ b;refine Qe ?_;refine Q4 a rfl (fun cu a=>?_) fun cu a=>?_;refine Qz ?_;have cv:=Jd (Zr.zr:rep d (Zr.zc GReply) (Zr.zd:GReply)) (ri 6:rep d _ _);obtain ⟨cw,cx,a⟩:=Qc a;obtain ⟨_,cy,bs⟩:∃ cs,qay (([(0,1),(1,1),(2,1)]:List (Nat × Nat))[·]?) (Zr.zc GReply) [(0,Ge 6)]=some cs∧rep d cs cw:=⟨_,(Zf (Zr.zr:rep d (Zr.zc GReply) (Zr.zd:GReply)) rfl rfl (Xx (ri 6:rep d _ _)) E9 Yd),Ye (x:=({ code:=6,n:=Zr.zd,values:=Zr.zd }:GReply)) cv cx⟩;refine Qa (Z0 [(0,Ge 6)] Uo (Y3 rfl Vl) cy) ?_;obtain ⟨_,c1,a⟩:=Qc a;refine Ql<|Z9 0 3 b rfl s ah rfl bs rfl rfl (Lf (rr s) bs) c1 fun c2 fv bu fw fx b=>Qj ?_;cases a;exact Q2 (J5 (j:=0) rfl ah (Vz Ko bu) b rfl ⟨_,d,_,rfl,ac,(b.sel (H':=[Gk f o 89,.stk g 9 1 i]) [2,3] E9 rfl),c2,o,g,i,rfl,rfl,bu,e,aa,aq⟩);refine Qz<|Qa (Qi J2 ay)<|Qa (Qh (Ge c.kind) Z4 rfl (b.bvB 1 rfl) (K6 (rr y)))<|Qa (Z5 rfl rfl)<|Qa (Qf (.bool (c.kind==7)) rfl)<|Qj ?_;refine Q4 a rfl (fun c3 a=>?_) fun c3 a=>?_;refine Ys [Gk b6 ad 29] [] Z6 b fun fy b c4 ae=>Qw 0 rfl (Qd _ z) ae<|Qw 1 rfl (Qd _ t) ae<|Qw 2 rfl (Qi qwj ay) ae<|Y4 3 rfl (Qh (Ge c.m) Z4 rfl (Ym 0 rfl) (Xd (rr y))) ae<|Qw 4 rfl (Zu rfl rfl) ae<|Qw 5 rfl (Q9 rfl) ae<|Qw 6 rfl (Qi qzp rfl) ae ?_;obtain ⟨c5,c6,a⟩:=Qn a;refine Qw 7 rfl (Ze q9k rfl rfl c5 c6) ae ?_;obtain ⟨_,bv,a⟩:=Qc a;obtain ⟨_,c7,a⟩:=Qc a;obtain ⟨c8,c9,a⟩:=Qc a;have f1:=(Zs bv);refine w1 8 rfl (Z8 2 1 b e (ri (IntKind.wrap .i64 (c.m+1)):rep d _ _) (GCluster.u3 (rr e) (vu (k:=1) rfl rfl (Ky (rr e)) (Lf (vp (k:=1) rfl rfl (Ky (rr e)) bv) (ri (IntKind.wrap .i64 (c.m+1)):rep d _ _)) c7)) c9 ?_);intro da _ db dc _ b;have dd:=(dc E8).trans aq;refine Yj b c4 fun f4=>wd<|Q7<|Qe ?_;exact ⟨d,(Zr.zc GReply),(Zr.zd:GReply),da,c8,g,i,l3,ac,b,s,db,aa,dd,ah,a⟩;refine Qz<|Qa (Qi J2 ay)<|Qa (Qh (Ge c.kind) Z4 rfl (b.bvB 1 rfl) (K6 (rr y)))<|Qa (Z5 rfl rfl)<|Qa (Qf (.bool (c.kind==6)) rfl)<|Qj ?_;refine Q4 a rfl (fun de a=>?_) fun de a=>?_;refine Ys [] [] Z6 b fun f5 b bh p=>Qw 0 rfl (Qd _ z) p<|Qw 1 rfl (Qd _ t) p<|Qw 2 rfl (Qd _ z) p<|Qw 3 rfl (Qd _ t) p<|Qw 4 rfl (Qd _ z) p<|Qw 5 rfl (Qd _ t) p ?_;obtain ⟨df,dg,a⟩:=Qc a;obtain ⟨_,dh,bw⟩:∃ cs,qay (([(0,192),(192,1),(193,8)]:List (Nat × Nat))[·]?) (Zr.zc GNode) []=some cs∧rep d cs df:=⟨_,Yd,Ye (x:=({ entries:=Zr.zd,order:=Zr.zd,values:=Zr.zd }:GNode)) (Zr.zr:rep d (Zr.zc GNode) (Zr.zd:GNode)) dg⟩;refine Qw 6 rfl (Z0 [] zba Vl dh) p<|Qw 7 rfl (Q9 rfl) p<|Qw 8 rfl (Qi qzn rfl) p ?_;obtain ⟨di,dj,a⟩:=Qn a;refine Qw 9 rfl (Ze q9j rfl rfl di dj) p<|Qw 11 rfl (Q9 rfl) p<|Qw 12 rfl (Qi qzo rfl) p<|Qw 15 rfl (Q9 rfl) p<|Qw 16 rfl (Qi qzp rfl) p ?_;obtain ⟨_,bx,a⟩:=Qc a;obtain ⟨_,dk,a⟩:=Qc a;obtain ⟨_,dl,a⟩:=Qc a;have gb:=(Zs bx);refine w1 10 rfl (Z8 2 201 b e bw (Ut (rr e) (vu (k:=201) rfl rfl (Ki (rr e)) (Lf (vp (k:=201) rfl rfl (Ki (rr e)) bx) bw) dk)) dl ?_);intro _ _ az dm _ b;have dn:=(dm E8).trans aq;refine Yj b bh fun dp=>?_;obtain ⟨dq,dr,a⟩:=Qn a;refine Qw 13 rfl (Ze J7 rfl rfl dq dr) dp ?_;obtain ⟨_,bz,a⟩:=Qc a;obtain ⟨_,ds,a⟩:=Qc a;obtain ⟨_,dt,a⟩:=Qc a;have gj:=(Zs bz);refine w1 14 rfl (Z8 2 1 b az (rb true:rep d _ _) (GCluster.u2 (rr az) (vu (k:=1) rfl rfl (Kx (rr az)) (Lf (vp (k:=1) rfl rfl (Kx (rr az)) bz) (rb true:rep d _ _)) ds)) dt ?_);intro _ _ a0 du _ b;have dv:=(du E8).trans dn;refine Yj b bh fun dw=>?_;obtain ⟨dx,dy,a⟩:=Qn a;refine Qw 17 rfl (Ze q9k rfl rfl dx dy) dw ?_;obtain ⟨_,b0,a⟩:=Qc a;obtain ⟨_,dz,a⟩:=Qc a;obtain ⟨d0,d1,a⟩:=Qc a;have gp:=(Zs b0);refine w1 18 rfl (Z8 2 1 b a0 (ri 0:rep d _ _) (GCluster.u3 (rr a0) (vu (k:=1) rfl rfl (Ky (rr a0)) (Lf (vp (k:=1) rfl rfl (Ky (rr a0)) b0) (ri 0:rep d _ _)) dz)) d1 ?_);intro d2 _ d3 d4 _ b;have d5:=(d4 E8).trans dv;refine Yj b bh fun gs=>wd<|Q7<|Qe ?_;exact ⟨d,(Zr.zc GReply),(Zr.zd:GReply),d2,d0,g,i,l3,ac,b,s,d3,aa,d5,ah,a⟩;refine Qz<|Zj z<|Zj t<|Qa (Q9 rfl)<|Qa (Qi Xq rfl) ?_;obtain ⟨d6,d7,a⟩:=Qn a;refine Qa (Ze Xr rfl rfl d6 d7) ?_;obtain ⟨b1,d8,a⟩:=Qc a;refine Qa (Qh (.string b1) ts9 rfl (b.bvB 2 rfl) (vp (k:=1) rfl rfl (V5 (rr e)) d8).1) ?_;obtain ⟨am,d9,a⟩:=Qc a;refine Ql (Yh (vs:=[.string b1]) (rv:=(fun M' u=>∃ v0,u= .tuple #[v0,Ge am.2]∧repL M' v0 am.1)) cb71 (Zl rfl) b (q7u b.agree d9) ?_);intro _ b3 _ a1 ea b;obtain ⟨a2,eb,ec⟩:=ea;subst eb;replace e:=Zg a1 e;refine Qa (Qd (.tuple #[a2,Ge am.2]) rfl)<|Qa (Q3 (v:=a2) rfl rfl)<|Qa (Q3 (v:= Ge am.2) rfl rfl)<|Qv 2 rfl<|Qj<|Qu<|Ys [Gk f o 89] [13] Z6 b fun gv b gw q=>Qw 0 rfl (Qd _ z) q<|Qw 1 rfl (Qd _ t) q<|Qw 2 rfl (Qd _ z) q<|Qw 3 rfl (Qd _ t) q<|Qw 4 rfl (Q9 rfl) q<|Qw 5 rfl (Qi Xq rfl) q ?_;obtain ⟨ed,ee,a⟩:=Qn a;refine Qw 6 rfl (Ze Xr rfl rfl ed ee) q ?_;obtain ⟨ef,eg,a⟩:=Qc a;refine Y4 7 rfl (Qh (.string ef) ts9 rfl (Ym 0 rfl) (vp (k:=1) rfl rfl (V5 (rr e)) eg).1) q<|Qw 8 rfl (Qd (Ge am.2) rfl) q ?_;obtain ⟨a3,bi,a⟩:=Qc a;obtain ⟨⟨_,_⟩,eh,bi⟩:=Ak.1 bi;refine Qw 9 rfl ((bi ▸ Ul (l:=none) (h:=(some am.2)) Qr rfl evn (evs rfl) eh)) q<|Qw 10 rfl (Q9 rfl) q<|Qw 11 rfl (Qi Xq rfl) q ?_;obtain ⟨ei,ej,a⟩:=Qn a;refine Qw 12 rfl (Ze Xr rfl rfl ei ej) q ?_;obtain ⟨_,a4,a⟩:=Qc a;have a4:=Kf a4;obtain ⟨_,b4,a⟩:=Qc a;obtain ⟨_,ek,a⟩:=Qc a;obtain ⟨_,el,a⟩:=Qc a;have g3:=(Zs b4);refine w1 13 rfl (Z8 2 1 b e (Vw a4:rep b3 [Value.string a3] a3) (GCluster.u1 (rr e) (vu (k:=1) rfl rfl (V5 (rr e)) (Lf (vp (k:=1) rfl rfl (V5 (rr e)) b4) (Vw a4:rep b3 [Value.string a3] a3)) ek)) el ?_);intro _ _ an em _ b;have en:=(em E8).trans aq;refine ⟨nB,?_⟩;refine wd<|Qe<|Qu<|Ys [] [] Z6 b fun g7 b b5 ao=>Qw 0 rfl (Qd _ z) ao<|Qw 1 rfl (Qd _ t) ao<|Qw 2 rfl (Qd _ t) ao<|Qw 3 rfl (Qd (a2) rfl) ao<|Qw 8 rfl (Q9 rfl) ao<|Qw 9 rfl (Qi qzn rfl) ao ?_;obtain ⟨a5,eo,a⟩:=Qc a;refine w1 4 rfl (Yh (vs:=[Ge c.n,a2]) (rv:=(fun M' u=>∃ c0,u= .tuple #[Gf c0,Ge a5.2]∧rep M' c0 a5.1)) cb72 (Ya rfl rfl) b (qyb b.agree ec eo) ?_);intro _ bj _ ap ep b;obtain ⟨b7,er,b9⟩:=ep;subst er;replace aa:=Zv (a1.1.trans ap.1) aa;replace s:=Zg (a1.trans ap) s;replace an:=Zg ap an;refine Yj b (b5.trans ap) fun a6=>Qw 5 rfl (Qd (.tuple #[Gf b7,Ge a5.2]) rfl) a6<|Qw 6 rfl (Q3 (v:= Gf b7) rfl rfl) a6<|Qw 7 rfl (Q3 (v:= Ge a5.2) rfl rfl) a6 ?_;obtain ⟨es,et,a⟩:=Qn a;refine Qw 10 rfl (Ze q9j rfl rfl es et) a6 ?_;obtain ⟨_,ca,a⟩:=Qc a;obtain ⟨_,eu,a⟩:=Qc a;obtain ⟨_,ev,a⟩:=Qc a;have hd:=(Zs ca);refine w1 11 rfl (Z8 2 201 b an b9 (Ut (rr an) (vu (k:=201) rfl rfl (Ki (rr an)) (Lf (vp (k:=201) rfl rfl (Ki (rr an)) ca) b9) eu)) ev ?_);intro _ _ a7 ew _ b;have ex:=(ew E8).trans en;refine Yj b (b5.trans ap) fun hh=>wd<|Qe<|Q1<|Zj z<|Zj t<|Qa (Q9 rfl)<|Qa (Qi qzo rfl) ?_;obtain ⟨ey,ez,a⟩:=Qn a;refine Qa (Ze J7 rfl rfl ey ez) ?_;obtain ⟨_,cb,a⟩:=Qc a;obtain ⟨_,e0,a⟩:=Qc a;obtain ⟨e1,e2,a⟩:=Qc a;have hk:=(Zs cb);refine Ql (Z8 2 1 b a7 (rb false:rep bj _ _) (GCluster.u2 (rr a7) (vu (k:=1) rfl rfl (Kx (rr a7)) (Lf (vp (k:=1) rfl rfl (Kx (rr a7)) cb) (rb false:rep bj _ _)) e0)) e2 ?_);intro e3 _ e4 e5 _ b;have e6:=(e5 E8).trans ex;refine Yk<|Q7<|Qe ?_;exact ⟨bj,(Zr.zc GReply),(Zr.zd:GReply),e3,e1,g,i,l3,(ac.trans (a1.trans ap)),b,s,e4,aa,e6,ah,a⟩;rintro _ _ ⟨ab,bb,bc,ak,bd,al,av,be,e7,b,cc,e8,e9,fa,cd,a⟩;rw [qid] at a;refine Qz ?_;obtain ⟨fb,fc,a⟩:=Qc a;obtain ⟨_,fd,ce⟩:∃ cs,qay (([(0,1),(1,1),(2,1)]:List (Nat × Nat))[·]?) (Zr.zc GReply) []=some cs∧rep ab cs fb:=⟨_,Yd,Ye (x:=({ code:=Zr.zd,n:=Zr.zd,values:=Zr.zd }:GReply)) (Zr.zr:rep ab (Zr.zc GReply) (Zr.zd:GReply)) fc⟩;refine Qa (Z0 [] Uo Vl fd) ?_;obtain ⟨_,fe,a⟩:=Qc a;refine Ql<|Z9 0 3 b rfl cc cd rfl ce rfl rfl (Lf (rr cc) ce) fe fun ff hr cf hs ht b=>Qj ?_;cases a;exact Q2 (J5 (j:=0) rfl cd (Vz Ko cf) b rfl ⟨_,ab,_,rfl,e7,(b.sel (H':=[Gk f ak 89,.stk al 9 1 av]) [2,3] E9 rfl),ff,ak,al,av,rfl,rfl,cf,e8,e9,fa⟩)
def q2h (fu:Nat) (e:GReply) (a:GCluster) (b:List ByteArray):Option (GReply × GCluster × (List ByteArray)):=(q7x fu 3).bind fun c=>(some c).bind fun d=>some (d,a,b)
def qt9 (fu:Nat) (d:List ByteArray) (a:GAct) (c:GCluster) (i:GReply):Option (GReply × GCluster × (List ByteArray)):=(inR a.n 32).bind fun _=>(qan c.cases a.n).bind fun e=>(qtz fu e a.n).bind fun f=>(qpb fu c d f).bind fun b=>(qri fu b.1 a.n).bind fun g=>(some g).bind fun h=>some (h,b.1,b.2)
def qua (fu:Nat) (a:List ByteArray) (c:GAct) (b:GCluster) (d:Bool):Option (GReply × GCluster × (List ByteArray)):=(bif d then (q7x fu 4).bind fun e=>(some e).bind fun f=>some (f,b,a) else qt9 fu a c b (Zr.zd:GReply))
def qpc (fu:Nat) (b:List ByteArray) (d:GAct) (c:GCluster) (e:Bool):Option (GReply × GCluster × (List ByteArray)):=(bif e then (qqc fu c b d).bind fun a=>(some a.1).bind fun f=>some (f,a.2.1,a.2.2) else q2h fu (Zr.zd:GReply) c b)
def qmk (fu:Nat) (c:List ByteArray) (a:GAct) (b:GCluster) (e:Bool):Option (GReply × GCluster × (List ByteArray)):=(bif e then (qqb fu b c a).bind fun d=>(some d.1).bind fun f=>some (f,d.2.1,d.2.2) else (bif a.kind==5 then (bif decide (a.n<0) then qua fu c a b true else qua fu c a b (decide (a.n≥b.begun))) else (bif a.kind==6 then qpc fu c a b (a.kind==6) else (bif a.kind==7 then qpc fu c a b (a.kind==7) else qpc fu c a b (a.kind==8)))))
def q7z (fu:Nat) (c:GCluster) (b:List ByteArray) (a:GAct):Option (GReply × GCluster × (List ByteArray)):=(bif decide (c.acts≥400) then (q7x fu 5).bind fun f=>(some f).bind fun g=>some (g,c,b) else (some ({ c with acts:=IntKind.wrap .i64 (c.acts+1) }:GCluster)).bind fun d=>(bif a.kind==1 then (qp9 fu d b a.ops).bind fun e=>(some e.1).bind fun h=>some (h,e.2.1,e.2.2) else (bif a.kind==2 then qmk fu b a d (a.kind==2) else (bif a.kind==3 then qmk fu b a d (a.kind==3) else qmk fu b a d (a.kind==4)))))
theorem zb2 {c:Nat} {x:Gl} {e:Value} {h:Gl} {p:Gl} {l:GCluster} {l3:List ByteArray} {d:GAct} {r:GReply × GCluster × (List ByteArray)} (a:St w (qai [Gk c x 89,.stk e 9 1 h]) M [Gk c x 89,.stk e 9 1 h] w) (ai:rep M x l) (q:skr M e h l3) (b2:sl x 1993 1=[e]) (y:rep M p d) (b:q7z fu l l3 d=some r) :
    Calls Tryz.prog 9 #[Gg c,Gf p] w (qdq M w [Gk c x 89,.stk e 9 1 h] (fun f u L'=>∃ c0 s t l,u=Gf c0∧L'=[Gk c s 89,.stk t 9 1 l]∧rep f c0 r.1∧rep f s r.2.1∧skr f t l r.2.2∧sl s 1993 1=[t])):=by
 refine Zm Tryz.func9 82 fun T hT=>?_;have am:T 0=Gg c:=hT 0;have c9:T 1=Gf p:=hT 1;rw [q7z] at b;refine Qz ?_;refine Ql<|Yr (v:= Gf p) (cs:=p) c9 rfl a fun z w5 ft a=>Ql (Zn q9m a ?_);intro b8 _ _ a;have g:rep M (Zr.zc GReply) (Zr.zd:GReply):=Zr.zr;refine Qj<|Qz<|Qa (Qf (evT (fun _=>undef) (.func 29)) rfl)<|Qj<|Qu<|Qs<|Qz<|Zj am<|Qa (za7 rfl rfl Tryz.underlying51)<|Qa (Qf (.bool false) rfl)<|Qj<|q83 rfl<|Qz<|Zj am<|Qa (Q9 rfl)<|Qa (Qi q65 rfl)<|Qa (Qh (Ge l.acts) Z4 rfl (a.bvB 2 rfl) (GCluster.p7 (rr ai)))<|Qa (Kh rfl rfl)<|Qa (Qf (.bool (decide (l.acts≥400))) rfl)<|Qj ?_;refine Q4 b rfl (fun da b=>?_) fun da b=>?_;refine Qz<|Qa (Qd (evT (fun _=>undef) (.func 29)) rfl) ?_;obtain ⟨db,dc,b⟩:=Qc b;refine Ql (Js rfl (Yh (vs:=[Ge 5]) (rv:=(fun f u=>∃ cs,u=Gf cs∧rep f cs db)) zg6 (Zl rfl) a (q2g a.agree dc)) ?_);intro _ dd _ a1 de a;obtain ⟨_,df,b4⟩:=de;subst df;replace ai:=Zg a1 ai;replace q:=Zv a1.1 q;replace g:=Zg a1 g;obtain ⟨_,dg,b⟩:=Qc b;refine Ql (Z8 0 3 a g b4 (Lf (rr g) b4) dg ?_);intro dh _ b5 _ _ a;refine Qj ?_;cases b;exact Q2 (J5 (j:=0) rfl rfl (Vz Ko b5) a rfl ⟨_,dd,_,rfl,a1,(a.sel (H':=[Gk c x 89,.stk e 9 1 h]) [2,3] E9 rfl),dh,x,e,h,rfl,rfl,b5,ai,q,b2⟩);refine Qk<|Q7<|Qe<|Qz<|Zj am<|Qa (Q9 rfl)<|Qa (Qi q65 rfl)<|Qa (Qh (Ge l.acts) Z4 rfl (a.bvB 2 rfl) (GCluster.p7 (rr ai)))<|Qa (Zu rfl rfl)<|Qa (Q9 rfl)<|Qa (Qi q65 rfl) ?_;obtain ⟨aj,di,b⟩:=Qc b;refine Ql (Z8 2 1 a ai (ri (IntKind.wrap .i64 (l.acts+1)):rep M _ _) (GCluster.u7 (rr ai) (Lf (GCluster.p7 (rr ai)) (ri (IntKind.wrap .i64 (l.acts+1)):rep M _ _))) di ?_);intro ac _ m dj _ a;have ap:=(dj E8).trans b2;refine Qj ?_;refine Qp (fun i w'=>∃ aq be bg ar bh au ax bi,Mm.ext w.heap.size (qai [Gk c x 89,.stk e 9 1 h]) M aq∧St w (qai [Gk c x 89,.stk e 9 1 h]) aq [Gk b8 be 48,Gk z p 29,Gk c ar 89,.stk au 9 1 ax] w'∧rep aq be bg∧rep aq ar bh∧skr aq au ax bi∧sl ar (0+1993) 1=[au]∧i 4=Gg b8∧i 5=evT (fun _=>undef) (.func 29)∧q2h fu bg bh bi=some r) ?_ ?_;refine Qz<|Qa (Qi J2 rfl)<|Qa (Qh (Ge d.kind) Z4 rfl (a.bvB 1 rfl) (K6 (rr y)))<|Qj<|Qs<|Qz<|Qa (Z5 rfl rfl)<|Qa (Qf (.bool (d.kind==1)) rfl)<|Qj ?_;refine Q4 b rfl (fun dk b=>?_) fun dk b=>?_;refine Qz<|Zj am<|Qa (Qi zak rfl) ?_;obtain ⟨b7,dl,dm⟩:=(GAct.p3 (rr y));refine Qa (Qh b7 Y9 rfl (a.bvB 1 rfl) dl) ?_;obtain ⟨bj,dn,b⟩:=Qc b;refine Ql (Yo (vs:=[Gg c,b7]) (L:=[Gk c ac 89,.stk e 9 1 h]) (R:=[Gk b8 (Zr.zc GReply) 48,Gk z p 29]) (rv:=(fun f u L'=>∃ c0 s t l,u=Gf c0∧L'=[Gk c s 89,.stk t 9 1 l]∧rep f c0 bj.1∧rep f s bj.2.1∧skr f t l bj.2.2∧sl s 1993 1=[t])) cb30 (Ya rfl rfl) a (a.sel [2,3,0,1] E9 rfl) (fun a=>q48 a m q ap dm dn) ?_);rintro _ dp _ _ b9 ⟨_,ca,cb,cc,rfl,dq,cd,dr,ds,dt⟩ a;replace a:=a _ dq;replace g:=Zg b9 g;obtain ⟨_,du,b⟩:=Qc b;refine Ql (Z8 2 3 a g cd (Lf (rr g) cd) du ?_);intro dv _ ce _ _ a;refine Qj ?_;cases b;exact Q2 (J5 (j:=2) rfl rfl (Vz Ko ce) a rfl ⟨_,dp,_,rfl,b9,(a.sel (H':=[Gk c ca 89,.stk cb 9 1 cc]) [0,1] E9 rfl),dv,ca,cb,cc,rfl,rfl,ce,dr,ds,dt⟩);refine Qp (fun i w'=>∃ ae bk,Mm.ext w.heap.size (qai [Gk c x 89,.stk e 9 1 h]) M ae∧St w (qai [Gk c x 89,.stk e 9 1 h]) ae [Gk b8 (Zr.zc GReply) 48,Gk z p 29,Gk c ac 89,.stk e 9 1 h] w'∧i 0=Gg c∧i 3=Gg z∧i 4=Gg b8∧i 5=evT (fun _=>undef) (.func 29)∧i 27=Ge d.kind∧i 34= .bool bk∧qmk fu l3 d aj bk=some r) ?_ ?_;refine Qz<|Qa (Z5 rfl rfl)<|Qa (Qf (.bool (d.kind==2)) rfl)<|Qj ?_;refine Q4 b rfl (fun dw b=>?_) fun dw b=>?_;refine Qk<|Qe ?_;exact ⟨M,(d.kind==2),(Qb _ _ _),a,am,rfl,rfl,rfl,rfl,rfl,b⟩;refine Qz<|Qa (Z5 rfl rfl)<|Qa (Qf (.bool (d.kind==3)) rfl)<|Qj ?_;refine Q4 b rfl (fun dx b=>?_) fun dx b=>?_;refine Qk<|Qe ?_;exact ⟨M,(d.kind==3),(Qb _ _ _),a,am,rfl,rfl,rfl,rfl,rfl,b⟩;refine Q1<|Qa (Z5 rfl rfl)<|Qa (Qf (.bool (d.kind==4)) rfl)<|Qj ?_;exact ⟨M,(d.kind==4),(Qb _ _ _),a,am,rfl,rfl,rfl,rfl,rfl,b⟩;rintro _ _ ⟨ae,bk,ah,a,an,ak,ao,ay,a2,dy,b⟩;replace q:=Zv ah.1 q;replace y:=Zg ah y;replace g:=Zg ah g;replace m:=Zg ah m;rw [qmk] at b;refine Q4 b dy (fun dz b=>?_) fun dz b=>?_;refine Qz<|Zj an ?_;have cf:=(rr y);refine Qa (Zb zdo ak (a.bvB 1 rfl) (Xx cf)) ?_;obtain ⟨bl,d0,b⟩:=Qc b;refine Ql (Yo (vs:=[Gg c,Gf (sl p (0) 4)]) (L:=[Gk c ac 89,.stk e 9 1 h]) (R:=[Gk b8 (Zr.zc GReply) 48,Gk z p 29]) (rv:=(fun f u L'=>∃ c0 s t l,u=Gf c0∧L'=[Gk c s 89,.stk t 9 1 l]∧rep f c0 bl.1∧rep f s bl.2.1∧skr f t l bl.2.2∧sl s 1993 1=[t])) cb31 (Ya rfl rfl) a (a.sel [2,3,0,1] E9 rfl) (fun a=>q49 a m q ap cf d0) ?_);rintro _ d1 _ _ cg ⟨_,ch,ci,cj,rfl,d2,ck,d3,d4,d5⟩ a;replace a:=a _ d2;replace g:=Zg cg g;obtain ⟨_,d6,b⟩:=Qc b;refine Ql<|Z9 2 3 a rfl g ao rfl ck rfl rfl (Lf (rr g) ck) d6 fun d7 gn cl go gp a=>Qj ?_;cases b;exact Q2 (J5 (j:=2) rfl ao (Vz Ko cl) a rfl ⟨_,d1,_,rfl,(ah.trans cg),(a.sel (H':=[Gk c ch 89,.stk ci 9 1 cj]) [0,1] E9 rfl),d7,ch,ci,cj,rfl,rfl,cl,d3,d4,d5⟩);refine Qz<|Qa (Z5 a2 rfl)<|Qa (Qf (.bool (d.kind==5)) rfl)<|Qj ?_;refine Q4 b rfl (fun d8 b=>?_) fun d8 b=>?_;refine Qp (fun i w'=>∃ a3 az bm,Mm.ext w.heap.size (qai [Gk c x 89,.stk e 9 1 h]) ae a3∧St w (qai [Gk c x 89,.stk e 9 1 h]) a3 [Gk b8 az 48,Gk z p 29,Gk c ac 89,.stk e 9 1 h] w'∧rep a3 az bm∧i 0=Gg c∧i 3=Gg z∧i 4=Gg b8∧qt9 fu l3 d aj bm=some r) ?_ ?_;refine Qp (fun i w'=>∃ a4 bn,Mm.ext w.heap.size (qai [Gk c x 89,.stk e 9 1 h]) ae a4∧St w (qai [Gk c x 89,.stk e 9 1 h]) a4 [Gk b8 (Zr.zc GReply) 48,Gk z p 29,Gk c ac 89,.stk e 9 1 h] w'∧i 0=Gg c∧i 3=Gg z∧i 4=Gg b8∧i 5=evT (fun _=>undef) (.func 29)∧i 54= .bool bn∧qua fu l3 d aj bn=some r) ?_ ?_;refine Ys [Gk z p 29,Gk c ac 89] [] Z6 a fun gq a gr o=>Qw 0 rfl (Qi Vc ak) o<|Y4 1 rfl (Qh (Ge d.n) Z4 rfl (Ym 0 rfl) (Yu (rr y))) o<|Qw 2 rfl (Zw rfl rfl) o<|Qw 3 rfl (Qd (.bool (decide (d.n<0))) rfl) o ?_;rcases ic b with ⟨cm,b⟩ | ⟨cm,b⟩<;>rw [cm];refine Vn 4 (j:=3) rfl rfl rfl rfl (fun _=>o)<|Vn 5 (j:=3) rfl rfl rfl rfl (fun _=>o)<|Vn 6 (j:=3) rfl rfl rfl rfl (fun _=>o)<|Vn 7 (j:=3) rfl rfl rfl rfl (fun _=>o)<|Vn 8 (j:=3) rfl rfl rfl rfl (fun _=>o)<|Vn 9 (j:=3) rfl rfl rfl rfl (fun _=>o)<|Vn 10 (j:=3) rfl rfl rfl rfl (fun _=>o)<|Qw 11 rfl (Zk (.bool true) rfl rfl) o<|wd<|Qe ?_;exact ⟨ae,true,(Qb _ _ _),a,an,ak,ao,ay,rfl,b⟩;refine Kn 4 rfl rfl rfl (Qi Vc ak) (fun _=>o)<|J0 5 rfl rfl rfl (Qh (Ge d.n) Z4 rfl (Ym 0 rfl) (Yu (rr y))) o<|Kn 6 rfl rfl rfl (Qd _ an) (fun _=>o)<|Kn 7 rfl rfl rfl (Q9 rfl) (fun _=>o)<|Kn 8 rfl rfl rfl (Qi Xp rfl) (fun _=>o)<|J0 9 rfl rfl rfl (Qh (Ge aj.begun) Z4 rfl (Ym 1 rfl) (Je (rr m))) o<|Kn 10 rfl rfl rfl (Kh rfl rfl) (fun _=>o)<|Qw 11 rfl (Q5 (.bool (decide (d.n≥aj.begun))) rfl rfl) o<|wd<|Qe ?_;exact ⟨ae,(decide (d.n≥aj.begun)),(Qb _ _ _),a,an,ak,ao,ay,rfl,b⟩;rintro _ _ ⟨a4,bn,a0,a,d9,ea,bo,eb,ec,b⟩;replace q:=Zv a0.1 q;replace g:=Zg a0 g;replace m:=Zg a0 m;rw [qua] at b;refine Q4 b ec (fun ed b=>?_) fun ed b=>?_;refine Qz<|Zj eb ?_;obtain ⟨ee,ef,b⟩:=Qc b;refine Ql (Js rfl (Yh (vs:=[Ge 4]) (rv:=(fun f u=>∃ cs,u=Gf cs∧rep f cs ee)) zg6 (Zl rfl) a (q2g a.agree ef)) ?_);intro _ eg _ a5 eh a;obtain ⟨_,ei,cn⟩:=eh;subst ei;replace q:=Zv a5.1 q;replace g:=Zg a5 g;replace m:=Zg a5 m;obtain ⟨_,ej,b⟩:=Qc b;refine Ql<|Z9 0 3 a rfl g bo rfl cn rfl rfl (Lf (rr g) cn) ej fun ek gy co gz g1 a=>Qj ?_;cases b;exact Q2 (J5 (j:=0) rfl bo (Vz Ko co) a rfl ⟨_,eg,_,rfl,(ah.trans (a0.trans a5)),(a.sel (H':=[Gk c ac 89,.stk e 9 1 h]) [2,3] E9 rfl),ek,ac,e,h,rfl,rfl,co,m,q,ap⟩);refine Qk<|Qe ?_;exact ⟨a4,(Zr.zc GReply),(Zr.zd:GReply),a0,a,g,d9,ea,bo,b⟩;rintro _ _ ⟨a3,az,bm,a6,a,a7,bp,bq,cp,b⟩;replace y:=Zg a6 y;replace m:=Zg a6 m;rw [qt9] at b;refine Qu<|Ys [Gk z p 29,Gk c ac 89] [11] Z6 a fun g4 a el af=>Qw 0 rfl (Qd _ bp) af<|Qw 1 rfl (Qd _ bp) af<|Qw 2 rfl (Qi Vc bq) af<|wlC (inL [6,7,10,11]) 3 rfl (Qh (Ge d.n) Z4 rfl (Ym 0 rfl) (Yu (rr y))) af<|Qw 4 rfl (Q9 rfl) af<|Qw 5 rfl (Qi qzq rfl) af ?_;obtain ⟨em,en,b⟩:=Qn b;refine Qw 6 rfl (Ze zej rfl rfl em en) af ?_;obtain ⟨_,eo,b⟩:=Qc b;have cq:=(vp (k:=24) rfl rfl (Jf (rr m)) eo);refine wlC (inL [10,11]) 7 rfl (Zb Vd rfl (Ym 1 rfl) (Xx cq)) af<|Qw 8 rfl (Qi Vc bq) af<|wlC (inL [10,11]) 9 rfl (Qh (Ge d.n) Z4 rfl (Ym 0 rfl) (Yu (rr y))) af ?_;obtain ⟨cr,ep,b⟩:=Qc b;refine w1 10 rfl (Yh (vs:=[Gf (sl ac (0+1224+Int.toNat d.n*24) 24),Ge d.n]) (rv:=(fun f u=>repL f u cr)) zg7 (Ya rfl rfl) a (qx7 a.agree cq ep) ?_);intro ct er _ av es a;have et:repL er ct cr:=es;replace q:=Zv (a6.1.trans av.1) q;replace m:=Zg av m;refine Yj a (el.trans av) fun g7=>?_;obtain ⟨cu,eu,b⟩:=Qc b;refine w1 11 rfl (Yo (vs:=[Gg c,ct]) (L:=[Gk c ac 89,.stk e 9 1 h]) (R:=[Gk b8 az 48,Gk z p 29]) (rv:=(fun f u L'=>∃ s t l,u= .tuple #[]∧L'=[Gk c s 89,.stk t 9 1 l]∧rep f s cu.1∧skr f t l cu.2∧sl s 1993 1=[t])) zfo (Ya rfl rfl) a (a.sel [2,3,0,1] E9 rfl) (fun a=>qp8 a m q ap et eu) ?_);rintro _ _ _ _ br ⟨a8,bs,bu,rfl,ev,a9,bv,ew⟩ a;replace a:=a _ ev;replace y:=Zg (av.trans br) y;refine ⟨nB,?_⟩;refine wd<|Qe<|Qz<|Zj bp<|Qa (Qi Vc bq)<|Qa (Qh (Ge d.n) Z4 rfl (a.bvB 3 rfl) (Yu (rr y))) ?_;obtain ⟨ex,ey,b⟩:=Qc b;refine Ql (Yo (vs:=[Gg c,Ge d.n]) (L:=[Gk c a8 89]) (R:=[.stk bs 9 1 bu,Gk b8 az 48,Gk z p 29]) (rv:=(fun f u L'=>∃ c0,u=Gf c0∧L'=[Gk c a8 89]∧rep f c0 ex)) cb34 (Ya rfl rfl) a (a.sel [0,1,2,3] E9 rfl) (fun a=>qz5 a a9 ey) ?_);rintro _ ez _ _ ba ⟨_,rfl,e0,cv⟩ a;replace a:=a _ e0;replace a7:=Bo (av.1.trans (br.1.trans ba.1)) a7;replace a9:=Zg ba a9;replace bv:=Zv ba.1 bv;obtain ⟨_,e1,b⟩:=Qc b;refine Ql<|Z9 2 3 a rfl a7 cp rfl cv rfl rfl (Lf (rr a7) cv) e1 fun e2 hh cw hi hj a=>Qj ?_;cases b;exact Q2 (J5 (j:=2) rfl cp (Vz Ko cw) a rfl ⟨_,ez,_,rfl,(ah.trans (a6.trans (av.trans (br.trans ba)))),(a.sel (H':=[Gk c a8 89,.stk bs 9 1 bu]) [0,1] E9 rfl),e2,a8,bs,bu,rfl,rfl,cw,a9,bv,ew⟩);refine Qp (fun i w'=>∃ bb bw,Mm.ext w.heap.size (qai [Gk c x 89,.stk e 9 1 h]) ae bb∧St w (qai [Gk c x 89,.stk e 9 1 h]) bb [Gk b8 (Zr.zc GReply) 48,Gk z p 29,Gk c ac 89,.stk e 9 1 h] w'∧i 0=Gg c∧i 3=Gg z∧i 4=Gg b8∧i 5=evT (fun _=>undef) (.func 29)∧i 73= .bool bw∧qpc fu l3 d aj bw=some r) ?_ ?_;refine Qz<|Qa (Z5 a2 rfl)<|Qa (Qf (.bool (d.kind==6)) rfl)<|Qj ?_;refine Q4 b rfl (fun e3 b=>?_) fun e3 b=>?_;refine Qk<|Qe ?_;exact ⟨ae,(d.kind==6),(Qb _ _ _),a,an,ak,ao,ay,rfl,b⟩;refine Qz<|Qa (Z5 a2 rfl)<|Qa (Qf (.bool (d.kind==7)) rfl)<|Qj ?_;refine Q4 b rfl (fun e4 b=>?_) fun e4 b=>?_;refine Qk<|Qe ?_;exact ⟨ae,(d.kind==7),(Qb _ _ _),a,an,ak,ao,ay,rfl,b⟩;refine Q1<|Qa (Z5 a2 rfl)<|Qa (Qf (.bool (d.kind==8)) rfl)<|Qj ?_;exact ⟨ae,(d.kind==8),(Qb _ _ _),a,an,ak,ao,ay,rfl,b⟩;rintro _ _ ⟨bb,bw,aw,a,e5,e6,bx,e7,e8,b⟩;replace q:=Zv aw.1 q;replace y:=Zg aw y;replace g:=Zg aw g;replace m:=Zg aw m;rw [qpc] at b;refine Q4 b e8 (fun e9 b=>?_) fun e9 b=>?_;refine Qz<|Zj e5 ?_;have cx:=(rr y);refine Qa (Zb zdo e6 (a.bvB 1 rfl) (Xx cx)) ?_;obtain ⟨bz,fa,b⟩:=Qc b;refine Ql (Yo (vs:=[Gg c,Gf (sl p (0) 4)]) (L:=[Gk c ac 89,.stk e 9 1 h]) (R:=[Gk b8 (Zr.zc GReply) 48,Gk z p 29]) (rv:=(fun f u L'=>∃ c0 s t l,u=Gf c0∧L'=[Gk c s 89,.stk t 9 1 l]∧rep f c0 bz.1∧rep f s bz.2.1∧skr f t l bz.2.2∧sl s 1993 1=[t])) cb35 (Ya rfl rfl) a (a.sel [2,3,0,1] E9 rfl) (fun a=>q5a a m q ap cx fa) ?_);rintro _ fb _ _ cy ⟨_,c1,c2,c3,rfl,fc,c4,fd,fe,ff⟩ a;replace a:=a _ fc;replace g:=Zg cy g;obtain ⟨_,fg,b⟩:=Qc b;refine Ql<|Z9 2 3 a rfl g bx rfl c4 rfl rfl (Lf (rr g) c4) fg fun fh hr c5 hs ht a=>Qj ?_;cases b;exact Q2 (J5 (j:=2) rfl bx (Vz Ko c5) a rfl ⟨_,fb,_,rfl,(ah.trans (aw.trans cy)),(a.sel (H':=[Gk c c1 89,.stk c2 9 1 c3]) [0,1] E9 rfl),fh,c1,c2,c3,rfl,rfl,c5,fd,fe,ff⟩);refine Qk<|Q7<|Qe ?_;exact ⟨bb,(Zr.zc GReply),(Zr.zd:GReply),ac,aj,e,h,l3,(ah.trans aw),a,g,m,q,ap,bx,e7,b⟩;rintro _ _ ⟨aq,be,bg,ar,bh,au,ax,bi,fi,a,bc,b0,b1,fj,c6,fk,b⟩;rw [q2h] at b;refine Qz<|Zj fk ?_;obtain ⟨fl,fm,b⟩:=Qc b;refine Ql (Js rfl (Yh (vs:=[Ge 3]) (rv:=(fun f u=>∃ cs,u=Gf cs∧rep f cs fl)) zg6 (Zl rfl) a (q2g a.agree fm)) ?_);intro _ fn _ bd fo a;obtain ⟨_,fp,c7⟩:=fo;subst fp;replace bc:=Zg bd bc;replace b0:=Zg bd b0;replace b1:=Zv bd.1 b1;obtain ⟨_,fq,b⟩:=Qc b;refine Ql<|Z9 0 3 a rfl bc c6 rfl c7 rfl rfl (Lf (rr bc) c7) fq fun fr h1 c8 h2 h3 a=>Qj ?_;cases b;exact Q2 (J5 (j:=0) rfl c6 (Vz Ko c8) a rfl ⟨_,fn,_,rfl,(fi.trans bd),(a.sel (H':=[Gk c ar 89,.stk au 9 1 ax]) [2,3] E9 rfl),fr,ar,au,ax,rfl,rfl,c8,b0,b1,fj⟩)
def q34 (fu:Nat):Option (GCluster × (List ByteArray)):=(some ({ nodes:=Zr.zd,logs:=Zr.zd,down:=Zr.zd,tear:=Zr.zd,cases:=Zr.zd,begun:=Zr.zd,net:=Zr.zd,acts:=Zr.zd }:GCluster)).bind fun a=>some (a,([]:List ByteArray))
theorem q93 {r:GCluster × (List ByteArray)} (k:Agree M w)  (c:q34 fu=some r) :
    Calls Tryz.prog 8 #[] w (qdq M w [] (fun g u l=>∃ h d e i,u=Gg h∧l=[Gk h d 89,.stk e 9 1 i]∧rep g d r.1∧skr g e i r.2∧sl d 1993 1=[e])):=by
 refine Zm Tryz.func8 3 fun T s=>?_;have a:St w (qai []) M [] w:=Zt k;rw [q34] at c;refine Qz<|Qa (Qf (.pointer none) rfl)<|Qj<|Qz ?_;obtain ⟨m,n,c⟩:=Qc c;obtain ⟨b,j,o⟩:∃ cs,qay (([(0,1206),(1206,6),(1212,6),(1218,6),(1224,768),(1992,1),(1993,1),(1994,1)]:List (Nat × Nat))[·]?) (Zr.zc GCluster) []=some cs∧rep M cs m:=⟨_,Yd,Ye (x:=({ nodes:=Zr.zd,logs:=Zr.zd,down:=Zr.zd,tear:=Zr.zd,cases:=Zr.zd,begun:=Zr.zd,net:=Zr.zd,acts:=Zr.zd }:GCluster)) (Zr.zr:rep M (Zr.zc GCluster) (Zr.zd:GCluster)) n⟩;have p:sl b 1993 1=[.slice none 0 0]:=(Y5 j (by rfl)).trans (by rfl);replace a:=a.nilStk 9 1;have q:skr M (.slice none 0 0) [] ([]:List ByteArray):=q12;refine Qa (Z0 [] tb89 Vl j) ?_;refine Ql<|Yr (v:= Gf b) (cs:=b) rfl rfl a fun f t y a=>Qa (Qf (Gg f) rfl)<|Qj ?_;cases c;exact Q2 (Yn rfl rfl ⟨_,M,_,rfl,(Qb _ _ _),(a.sel (H':=[Gk f b 89,.stk (.slice none 0 0) 9 1 []]) [0,1] E9 rfl),f,b,(.slice none 0 0),[],rfl,rfl,o,q,p⟩)
def qh2 (fu:Nat) (a:List GAct):Nat→GCluster→(List ByteArray)→(List GReply)→Int→Option ((List GReply) × Int)
 | 0,_,_,_,_=>none
 | n+1,e,f,d,b=>(bif decide (b<(a.length:Int)) then (idx a b).bind fun g=>(some g).bind fun h=>(q7z fu e f h).bind fun c=>(app d ([c.1]:List GReply)).bind fun i=>(qh2 fu a n) c.2.1 c.2.2 i (IntKind.wrap .i64 (b+1)) else some (d,0))
def qqd (fu:Nat) (a:List GAct):Option ((List GReply) × Int):=(bif decide ((a.length:Int)>400) then some ([],5) else (q34 fu).bind fun b=>qh2 fu a fu b.1 b.2 ([]:List GReply) 0)
theorem q35 {q:Value} {c:List GAct} {r:(List GReply) × Int} (hA:Agree M w) (e:repL M q c) (b:qqd fu c=some r) :
    Calls Tryz.prog 5 #[q] w (Gives M w (fun d u=>∃ v0,u= .tuple #[v0,Ge r.2]∧repL d v0 r.1)):=by
 refine Zm Tryz.func5 26 fun T hT=>?_;have ap:T 0=q:=hT 0;have a:Gi w M [] w:=Zt hA;rw [qqd] at b;refine Qz<|Qv 2 rfl<|Qj<|Qu<|Qz<|Zj ap ?_;obtain ⟨_,_,bg,_⟩:=Qy e;refine Qa (Zh Ku (Vr bg rfl))<|Qa (Yx rfl rfl)<|Qj ?_;refine Q4 b rfl (fun bh b=>?_) fun bh b=>?_;refine Qz<|Qv 2 rfl<|Qj ?_;cases b;exact Q2 (Ud rfl rfl rfl (Zc a (Qb _ _ _) ⟨_,rfl,(Zo _)⟩));refine Qk<|Qe<|Qz ?_;obtain ⟨s,bi,b⟩:=Qc b;refine Ql (Yo (vs:=[]) (L:=[]) (R:=[]) (rv:=(fun d u y=>∃ aq z aa ar,u=Gg aq∧y=[Gk aq z 89,.stk aa 9 1 ar]∧rep d z s.1∧skr d aa ar s.2∧sl z 1993 1=[aa])) cb8 q4o a (a.sel [] E9 rfl) (fun a=>q93 a.agree bi) ?_);rintro _ M5 _ _ av ⟨g,bj,bk,bl,rfl,bm,bn,bo,bp⟩ a;replace a:=a _ bm;replace e:=Qo av.1 e;refine Qa (Qf (Gg g) rfl)<|Qj<|Qz<|Qa (Qf ((.slice none 0 0)) rfl)<|Qj<|Qu<|Qz<|Zj ap ?_;obtain ⟨_,_,bq,_⟩:=Qy e;refine Qa (Zh Ku (Vr bq rfl))<|Qa (Qd (Ge 0) rfl)<|Qj<|Qs ?_;replace a:=a.nilRow 48 3;refine Zy (fun ab i w'=>∃ h m ac n t ad o ae p,Gh w M5 h∧Gi w h [.row o 48 3,Gk g m 89,.stk n 9 1 t] w'∧rep h m ac∧skr h n t ad∧sl m (0+1993) 1=[n]∧repL h o ae∧i 4=Gg g∧i 5=o∧i 12=q∧i 13=Ge (c.length:Int)∧i 14=Ge p∧qh2 fu c ab ac ad ae p=some r) fu ?_ ?_ ?_;exact ⟨M5,bj,s.1,bk,bl,s.2,(.slice none 0 0),([]:List GReply),(0:Int),(Qb _ _ _),a,bn,bo,bp,(Zo _),rfl,rfl,rfl,rfl,rfl,b⟩;rintro i w' ⟨_,_,_,_,_,_,_,_,_,_,_,_,_,_,_,_,_,_,_,_,b⟩;rw [qh2] at b;cases b;intro ab;rintro _ _ ⟨h,m,ac,n,t,ad,o,ae,p,af,a,br,bs,bu,v,ax,ay,az,a0,ag,b⟩;replace e:=Qo af.1 e;rw [qh2] at b;obtain ⟨_,a1⟩:∃ f,f=qh2 fu c ab:=⟨_,rfl⟩;rw [← a1] at b;refine Qz<|Qa (Zw ag a0)<|Qj<|Qu ?_;refine Q4 b rfl (fun bv b=>?_) fun bv b=>?_;refine Qk<|Qe<|Qu<|Qs<|Qz ?_;obtain ⟨_,_,_,_,_,bw,bx,bz,b0,b1,b⟩:=Yc 4 e b;refine Qa (Yp il22 az bw ag bx bz) ?_;have ah:=b1;refine Qa (Zb zdo rfl (a.bvM b0) (Xx ah)) ?_;refine Ql (Zn tz29 a ?_);intro b2 _ _ a;have a3:rep h (Zr.zc GAct) (Zr.zd:GAct):=Zr.zr;obtain ⟨_,b3,b⟩:=Qc b;refine Ql (Z8 0 4 a a3 ah (Lf (rr a3) ah) b3 ?_);intro a4 _ b4 _ _ a;refine Qj<|Q1<|Zj ay<|Zj ax ?_;have a5:=(rr b4);refine Qa (Zb zdo rfl (a.bvB 0 rfl) (Xx a5)) ?_;obtain ⟨k,b5,b⟩:=Qc b;refine Ql (Yo (vs:=[Gg g,Gf (sl a4 (0) 4)]) (L:=[Gk g m 89,.stk n 9 1 t]) (R:=[Gk b2 a4 29,.row o 48 3]) (rv:=(fun d u y=>∃ c0 k0 u1 c,u=Gf c0∧y=[Gk g k0 89,.stk u1 9 1 c]∧rep d c0 k.1∧rep d k0 k.2.1∧skr d u1 c k.2.2∧sl k0 1993 1=[u1])) cb9 (Ya rfl rfl) a (a.sel [2,3,0,1] E9 rfl) (fun a=>zb2 a br bs bu a5 b5) ?_);rintro _ _ _ _ a7 ⟨b6,a9,ba,bb,rfl,b7,b8,ak,al,b9⟩ a;replace a:=a _ b7;refine Ql (Zz (α := GReply) (l:=([k.1]:List GReply)) [Gf b6] tl23 (Y3 rfl Vl) rfl rfl E9 E9 E9 a (Jj b8 Jv) ?_);intro _ _ _ x ca a;replace v:=Qo (a7.1.trans x.1) v;obtain ⟨cb,cc,cd,b⟩:=Z1 b;refine Ql (Yq (α := GReply) (j:=3) tp23 a rfl rfl rfl v ca cc ?_);intro am ce _ an bc a;rw [← cd] at bc;replace ak:=Zg (x.trans an) ak;replace al:=Zv (x.1.trans an.1) al;refine Qa (Qf (am) rfl)<|Yk<|Q7<|Qe<|Q1<|Qa (Zu ag rfl)<|Qa (Qd (Ge (IntKind.wrap .i64 (p+1))) rfl)<|Qj ?_;exact ⟨ce,a9,k.2.1,ba,bb,k.2.2,am,cb,(IntKind.wrap .i64 (p+1)),(af.trans (a7.trans (x.trans an))),(a.sel (H':=[.row am 48 3,Gk g a9 89,.stk ba 9 1 bb]) [3,0,1] E9 rfl),ak,al,b9,bc,ax,rfl,az,a0,rfl,(by rw [← a1];exact b)⟩;refine Zp<|Qq<|Qq<|Zq<|Qe<|Qz<|Zj ay<|Qv 2 rfl<|Qj ?_;cases b;exact Q2 (Ud rfl rfl rfl (Zc a (av.trans af) ⟨_,rfl,v⟩))
theorem q5b (a b:Nat) (ha:a<4611686018427387904) (hb:b<4611686018427387904) (h:a ||| b<9223372036854775808):bits .or .i64 (a:Int) (b:Int)=((a ||| b:Nat):Int):=by
 show IntKind.i64.wrap ((BitVec.ofInt 64 (a:Int) ||| BitVec.ofInt 64 (b:Int)).toNat:Int)=_;rw [BitVec.ofInt_natCast,BitVec.ofInt_natCast,BitVec.toNat_or,BitVec.toNat_ofNat,BitVec.toNat_ofNat,Nat.mod_eq_of_lt E8,Nat.mod_eq_of_lt E8];exact IntWalk.i64_in _ E8
theorem q94 (a b:Nat) (ha:a<4611686018427387904 / 256) (hb:b<256):bits .or .i64 ((a:Int)*256) (b:Int)=(a:Int)*256+b:=by
 have h:=Nat.two_pow_add_eq_or_of_lt (i:=8) (b:=b) E8 a;have e:((a*256:Nat):Int)=(a:Int)*256:=by omega
 rw [← e,q5b _ _ E8 E8 (by rw [Ev];rw [show (256:Nat)=2 ^ 8 from rfl,← h];omega)];rw [Ev,show (256:Nat)=2 ^ 8 from rfl,← h];omega
abbrev X4 := @List.drop_eq_getElem_cons
abbrev Ay := @List.length_drop
def RTexts (S:Nat→Prop) (w:World) (v:Value) (l:List ByteArray):Prop:=RRow S w v 1 16 l.length (l.map Value.string)
def qjo (a b:UInt8):Nat:=a.toNat*256+b.toNat
def qb0 (l:List UInt8):List ByteArray × Nat :=
 match l with
 | a::b::r =>
  if 1≤qjo a b∧qjo a b≤400∧qjo a b≤r.length then
   (⟨(r.take (qjo a b)).toArray⟩::(qb0 (r.drop (qjo a b))).1,2+qjo a b+(qb0 (r.drop (qjo a b))).2)
  else ([],0)
 | _=>([],0)
termination_by l.length
decreasing_by all_goals (simp only [List.length_cons,List.length_drop];omega)
theorem qrj {a b:UInt8} {r:List UInt8} (h:¬ (1≤qjo a b∧qjo a b≤400∧qjo a b≤r.length)):qb0 (a::b::r)=([],0):=by
 rw [qb0,if_neg h]
theorem qyd {a b:UInt8} {r:List UInt8} (h:1≤qjo a b∧qjo a b≤400∧qjo a b≤r.length) :
 qb0 (a::b::r)=(⟨(r.take (qjo a b)).toArray⟩::(qb0 (r.drop (qjo a b))).1,2+qjo a b+(qb0 (r.drop (qjo a b))).2):=by
 rw [qb0,if_pos h]
theorem qla {l:List UInt8} (h:l.length<2):qb0 l=([],0):=by
 match l,h with
 | [],_=>rw [qb0];intro a b r h;cases h
 | [x],_=>rw [qb0];intro a b r h;cases h
def qwt (log:ByteArray) (acc:List ByteArray) (k:Nat):Prop :=
 (qb0 log.data.toList).1=acc++(qb0 (log.data.toList.drop k)).1∧(qb0 log.data.toList).2=k+(qb0 (log.data.toList.drop k)).2∧acc.length≤k
theorem q2i (log:ByteArray):qwt log [] 0:=by simp [qwt]
theorem q36 {log:ByteArray} {k:Nat} (h:k+2≤log.size):log.data.toList.drop k=log[k]::log[k+1]::log.data.toList.drop (k+2):=by
 have hl:log.data.toList.length=log.size:=rfl;rw [X4 E8,X4 E8];rfl
theorem q2j {log:ByteArray} {acc:List ByteArray} {k:Nat} (h:qwt log acc k) (hk:k+2≤log.size)
 (hn:1≤qjo log[k] log[k+1]∧qjo log[k] log[k+1]≤400∧qjo log[k] log[k+1]≤log.size-k-2) :
 qwt log (acc++[log.extract (k+2) (k+2+qjo log[k] log[k+1])]) (k+(2+qjo log[k] log[k+1])):=by
 obtain ⟨h1,h2,h3⟩:=h;have hl:log.data.toList.length=log.size:=rfl;rw [q36 hk,qyd (by rw [Ay,hl];omega),Be] at h1 h2;have he:log.extract (k+2) (k+2+qjo log[k] log[k+1])=⟨(List.take (qjo log[k] log[k+1]) (List.drop (k+2) log.data.toList)).toArray⟩:=by
  apply q6k;rw [Go.Lib.extract_data];simp
 have e2:k+2+qjo log[k] log[k+1]=k+(2+qjo log[k] log[k+1]):=by omega
 rw [e2] at h1 h2;refine ⟨?_,by omega,by simp;omega⟩;rw [h1,← e2,he];simp
theorem qwu {log:ByteArray} {acc:List ByteArray} {k:Nat} (h:qwt log acc k) (he:qb0 (log.data.toList.drop k)=([],0)):qb0 log.data.toList=(acc,k):=by
 obtain ⟨h1,h2,_⟩:=h;rw [he] at h1 h2;simp at h1 h2;rw [← h1,← h2]
theorem RTexts.shape {S:Nat→Prop} {w:World} {v:Value} {l:List ByteArray} (h:RTexts S w v l):∃ a cap,v= .slice a l.length cap∧l.length≤17592186043904:=by
 obtain ⟨a,cap,he,h1,h2,h3,h4,h5⟩:=h;exact ⟨a,cap,he,by omega⟩
theorem RTexts.later {S:Nat→Prop} {w w':World} {v:Value} {l:List ByteArray} (h:RTexts S w v l) (hb:Below w.heap.size w w'):RTexts S w' v l:=RRow.later h hb
theorem RTexts.at {S:Nat→Prop} {w:World} {a:Option Addr} {n cap:Nat} {l:List ByteArray} (h:RTexts S w (.slice a n cap) l) {k:Nat} {x:ByteArray} (hx:l[k]? = some x) :
 ∃ b off,a=some ⟨b,off,none⟩∧S b∧b<w.heap.size∧w.cell? ⟨b,off+k,none⟩=some (.string x):=by
 obtain ⟨a',cap',he,h1,h2,h3,h4,h5⟩:=h;cases he;obtain ⟨b,off,ha,hb,hc⟩:=h5 k (.string x) (by simp [hx]);exact ⟨b,off,ha,hb,qxt hc,hc⟩
abbrev Ei := @Int.fdiv_eq_ediv_of_nonneg
abbrev Ej := @Int.tdiv_eq_ediv_of_nonneg
abbrev Do := @List.tail_drop
abbrev Ao := @Int.emod_eq_of_lt
theorem qgk (z:Int) (n:Nat) (l:List Byt) (j:Nat) (hj:j<6) (hl:l.length≤1000000) (h1 : -1099511627776≤z) (h2:z≤1099511627776) :
 qej z (n+1) l (j:Int)=qej z n (l++[⟨(z+140737488355328) / ((256 ^ j:Nat):Int)%256⟩]) ((j:Int)-1):=by
 rw [qej];have hw:IntKind.wrap .i64 (z+140737488355328)=z+140737488355328:=qa2 E8 E8;have h8:IntKind.wrap .u64 (8*IntKind.wrap .u64 (j:Int))=8*(j:Int):=by rw [ze7 (x:=(j:Int)) E8 E8,ze7 E8 E8]
 have hs:IntKind.wrap .i64 ((j:Int)-1)=(j:Int)-1:=qa2 E8 E8;have hb:IntKind.bits .i64=64:=rfl;rw [qae (qac E8),hw,h8,hs,hb,q7m E8,qaa,wr8,qas (by simp [Rep.bytes];omega),qaa];have ht:Int.toNat (8*(j:Int))=8*j:=by omega
 have hm:min (8*j) 64=8*j:=by omega
 have hp:((2:Int) ^ (8*j))=((256 ^ j:Nat):Int):=by rw [Int.pow_mul];norm_cast
 rw [ht,hm,hp,Ei _ (Bx _)]
theorem qwv {fu:Nat} {z:Int} {l:List Byt} (hf:7≤fu) (hl:l.length≤100000) (h1 : -1099511627776≤z) (h2:z≤1099511627776):qrf fu l z=some (l++(q30 z).map Byt.mk):=by
 obtain ⟨n,rfl⟩:∃ n,fu=n+7:=⟨fu-7,by omega⟩;unfold qrf;have e5:=qgk z (n+6) l 5 E8 E8 h1 h2;have e4:=fun m=>qgk z (n+5) m 4 E8;have e3:=fun m=>qgk z (n+4) m 3 E8;have e2:=fun m=>qgk z (n+3) m 2 E8;have e1:=fun m=>qgk z (n+2) m 1 E8;have e0:=fun m=>qgk z (n+1) m 0 E8;have q5:((5:Nat):Int)=5:=rfl;have q4:((4:Nat):Int)=4:=rfl;have q3:((3:Nat):Int)=3:=rfl;have q2:((2:Nat):Int)=2:=rfl;have q1:((1:Nat):Int)=1:=rfl;have q0:((0:Nat):Int)=0:=rfl;rw [q5] at e5;simp only [q4,q3,q2,q1,q0] at e4 e3 e2 e1 e0;rw [e5,show (5:Int)-1=4 from rfl,e4 _ (by simp;omega) h1 h2,show (4:Int)-1=3 from rfl,e3 _ (by simp;omega) h1 h2,show (3:Int)-1=2 from rfl,e2 _ (by simp;omega) h1 h2,show (2:Int)-1=1 from rfl,e1 _ (by simp;omega) h1 h2,show (1:Int)-1=0 from rfl,e0 _ (by simp;omega) h1 h2];rw [qej,qad (qab E8)];simp only [Al,Bj,Am,q30,A6,Da];rw [show ((256 ^ 5:Nat):Int)=1099511627776 from rfl,show ((256 ^ 4:Nat):Int)=4294967296 from rfl,show ((256 ^ 3:Nat):Int)=16777216 from rfl,show ((256 ^ 2:Nat):Int)=65536 from rfl,show ((256 ^ 1:Nat):Int)=256 from rfl,Int.ediv_one]
theorem qz6 (a b:List Int):strOfNums a++strOfNums b=strOfNums (a++b):=by
 apply q6k;rw [q17,strOfNums_data,strOfNums_data,strOfNums_data,Bm]
theorem qww (a:List Int):(strOfNums a).size=a.length:=by
 have:=congrArg List.length (strOfNums_data a);simpa using this
theorem qhq {a b:List Int} (h:a.length+b.length≤140737488351232):cat (strOfNums a) (strOfNums b)=some (strOfNums (a++b)):=by
 rw [qwn (by rw [qww,qww];exact h),qz6]
theorem qn0 (y t:Int) (n:Nat) (a:List Int) (ht:t<6) (ht0:0≤t) (hy:0≤y) (hy2:y≤562949953421312) (ha:a.length≤1000) :
 qcl (n+1) y (strOfNums a) t=qcl n (y / 256) (strOfNums (y%256::a)) (t+1):=by
 rw [qcl,qae (qac ht),qaa,B5 hy,qhq (by simp;omega),qaa,Ej hy,qa2 E8 E8,qa2 E8 E8];congr 1;congr 1;rw [Int.emod_emod_of_dvd _ (Int.dvd_refl 256)];rfl
theorem qsb {fu:Nat} {z:Int} (hf:7≤fu) (h1 : -1099511627776≤z) (h2:z≤1099511627776):qjw fu z=some (strOfNums (q30 z)):=by
 obtain ⟨n,rfl⟩:∃ n,fu=n+7:=⟨fu-7,by omega⟩;unfold qjw;rw [qa2 E8 E8,show (⟨#[]⟩:ByteArray)=strOfNums [] from rfl];rw [qn0 _ _ _ _ E8 E8 E8 E8 (by simp),qn0 _ _ _ _ E8 E8 E8 E8 (by simp),qn0 _ _ _ _ E8 E8 E8 E8 (by simp),
  qn0 _ _ _ _ E8 E8 E8 E8 (by simp),qn0 _ _ _ _ E8 E8 E8 E8 (by simp),qn0 _ _ _ _ E8 E8 E8 E8 (by simp)]
 rw [qcl,qad (qab E8)];congr 2;simp only [q30,List.cons.injEq,and_true];omega
structure FOk (f:GFrame):Prop where
 ops:f.ops.length≤4
 op:∀ o∈f.ops,0≤o.kind∧o.kind<256∧0≤o.key∧o.key<256 ∧ -1099511627776≤o.n∧o.n≤1099511627776
 deps:f.deps.length≤32
 dep:∀ n∈f.deps,0≤n∧n<32
 at_:f.at_.length≤4
 ats:∀ n∈f.at_,0≤n∧n<4
 vals:f.vals.length=f.at_.length
 val:∀ v∈f.vals,-1099511627776≤v∧v≤1099511627776
 head:0≤f.kind∧f.kind<256∧0≤f.node∧f.node<256∧0≤f.id∧f.id<256
def qhr (o:GOp):List Int:=o.kind::o.key::q30 o.n
def qcg (p:Int × Int):List Int:=p.1::q30 p.2
def q2k (f:GFrame):List Int :=
 [f.kind,f.node,f.id,f.ops.length]++(f.ops.flatMap qhr++([(f.deps.length:Int)]++(f.deps++([(f.at_.length:Int)]++(f.at_.zip f.vals).flatMap qcg))))
theorem qjg (z:Int):(q30 z).length=6:=rfl
theorem byts (l:List Int):(l.map Byt.mk).map Byt.val=l:=by induction l with | nil=>rfl | cons x t ih=>rw [A6,A6,ih]
theorem ze9 (f:GFrame) (hf:FOk f) (fu:Nat) (hfu:7≤fu):∀ (ra rv:List Int) (k n:Nat) (l:List Byt),f.at_.drop k=ra→f.vals.drop k=rv→ra.length<n→l.length+7*ra.length≤90000→k≤f.at_.length →
 qfi fu f n l (k:Int)=some (strOfNums (l.map Byt.val++(ra.zip rv).flatMap qcg),0):=by
 intro ra
 induction ra with
 | nil =>
  intro rv k n l ha hv hn hl hk;obtain ⟨n,rfl⟩:∃ m,n=m+1:=⟨n-1,by simp at hn;omega⟩;have:f.at_.length≤k:=by have:=congrArg List.length ha;simp at this;omega
  rw [qfi,qad (qab E8)];simp
 | cons a t ih =>
  intro rv k n l ha hv hn hl hk;obtain ⟨n,rfl⟩:∃ m,n=m+1:=⟨n-1,by simp at hn;omega⟩;have hk2:k<f.at_.length:=by have:=congrArg List.length ha;simp at this;omega
  have hga:f.at_[k]? = some a:=by have:=congrArg (fun x:List Int=>x[0]?) ha;simpa using this
  cases rv with
  | nil=>have:=congrArg List.length hv;simp at this;have:=hf.vals;omega
  | cons v u =>
   have hgv:f.vals[k]? = some v:=by have:=congrArg (fun x:List Int=>x[0]?) hv;simpa using this
   have ha2:f.at_.drop (k+1)=t:=by rw [← Do,ha];rfl
   have hv2:f.vals.drop (k+1)=u:=by rw [← Do,hv];rfl
   have hv3:=hf.val v (X7 hgv);have ha3:=hf.ats a (X7 hga);have h4:=hf.at_;simp only [X9] at hl hn;rw [qfi,qae (qac E8),qap,hga,qaa,qap,hgv,qaa,qas (by simp [Rep.bytes];omega),qaa,qwv hfu (by simp;omega) hv3.1 hv3.2,qaa,
    qa2 E8 E8,show (k:Int)+1=((k+1:Nat):Int) from rfl,ih u (k+1) n _ ha2 hv2 E8 (by simp [qjg];omega) E8]
   congr 3;simp only [Bm,byts,wr8,List.zip_cons_cons,A8,qcg,A6,Al,Bj,Am];rw [Ao ha3.1 E8]
theorem zfa (f:GFrame) (hf:FOk f) (fu:Nat) (hfu:40≤fu):∀ (ra:List Int) (k n:Nat) (l:List Byt),f.deps.drop k=ra→ra.length<n→l.length+ra.length≤80000→k≤f.deps.length →
 qfj fu f n l (k:Int)=some (strOfNums (l.map Byt.val++(ra++([(f.at_.length:Int)]++(f.at_.zip f.vals).flatMap qcg))),0):=by
 intro ra
 induction ra with
 | nil =>
  intro k n l ha hn hl hk;obtain ⟨n,rfl⟩:∃ m,n=m+1:=⟨n-1,by simp at hn;omega⟩;have:f.deps.length≤k:=by have:=congrArg List.length ha;simp at this;omega
  have h4:=hf.at_;simp only [Az] at hl;rw [qfj,qad (qab E8),qas (by simp [Rep.bytes];omega),qaa,show (0:Int)=((0:Nat):Int) from rfl,ze9 f hf fu E8 f.at_ f.vals 0 fu _ rfl rfl E8 (by simp;omega) E8];congr 3;simp only [Bm,wr8,A6,Da,Al,Am];rw [Ao E8 E8]
 | cons a t ih =>
  intro k n l ha hn hl hk;obtain ⟨n,rfl⟩:∃ m,n=m+1:=⟨n-1,by simp at hn;omega⟩;have hk2:k<f.deps.length:=by have:=congrArg List.length ha;simp at this;omega
  have hga:f.deps[k]? = some a:=by have:=congrArg (fun x:List Int=>x[0]?) ha;simpa using this
  have ha2:f.deps.drop (k+1)=t:=by rw [← Do,ha];rfl
  have ha3:=hf.dep a (X7 hga);have h32:=hf.deps;simp only [X9] at hl hn;rw [qfj,qae (qac E8),qap,hga,qaa,qas (by simp [Rep.bytes];omega),qaa,qa2 E8 E8,show (k:Int)+1=((k+1:Nat):Int) from rfl,ih (k+1) n _ ha2 E8 (by simp;omega) E8];congr 3;simp only [Bm,wr8,A6,Da,Al,Bj,Am];rw [Ao ha3.1 E8]
theorem zfb (f:GFrame) (hf:FOk f) (fu:Nat) (hfu:40≤fu):∀ (ra:List GOp) (k n:Nat) (l:List Byt),f.ops.drop k=ra→ra.length<n→l.length+8*ra.length≤70000→k≤f.ops.length →
 qfk fu f n l (k:Int)=some (strOfNums (l.map Byt.val++(ra.flatMap qhr++([(f.deps.length:Int)]++(f.deps++([(f.at_.length:Int)]++(f.at_.zip f.vals).flatMap qcg))))),0):=by
 intro ra
 induction ra with
 | nil =>
  intro k n l ha hn hl hk;obtain ⟨n,rfl⟩:∃ m,n=m+1:=⟨n-1,by simp at hn;omega⟩;have:f.ops.length≤k:=by have:=congrArg List.length ha;simp at this;omega
  have h4:=hf.deps;simp only [Az] at hl;rw [qfk,qad (qab E8),qas (by simp [Rep.bytes];omega),qaa,show (0:Int)=((0:Nat):Int) from rfl,zfa f hf fu hfu f.deps 0 fu _ rfl E8 (by simp;omega) E8];congr 3;simp only [Bm,wr8,A6,Da,Al,Am,List.flatMap_nil];rw [Ao E8 E8]
 | cons a t ih =>
  intro k n l ha hn hl hk;obtain ⟨n,rfl⟩:∃ m,n=m+1:=⟨n-1,by simp at hn;omega⟩;have hk2:k<f.ops.length:=by have:=congrArg List.length ha;simp at this;omega
  have hga:f.ops[k]? = some a:=by have:=congrArg (fun x:List GOp=>x[0]?) ha;simpa using this
  have ha2:f.ops.drop (k+1)=t:=by rw [← Do,ha];rfl
  obtain ⟨b1,b2,b3,b4,b5,b6⟩:=hf.op a (X7 hga);have h4:=hf.ops;simp only [X9] at hl hn;rw [qfk,qae (qac E8),qap,hga,qaa,qaa,qas (by simp [Rep.bytes];omega),qaa,qwv E8 (by simp;omega) b5 b6,qaa,
   qa2 E8 E8,show (k:Int)+1=((k+1:Nat):Int) from rfl,ih (k+1) n _ ha2 E8 (by simp [qjg];omega) E8]
  congr 3;simp only [Bm,byts,wr8,A8,qhr,A6,Al,Bj,Am];rw [Ao b1 b2,Ao b3 b4]
theorem q5c {f:GFrame} (hf:FOk f) (h0:qaf f=0) {fu:Nat} (hfu:40≤fu):ql7 fu f=some (strOfNums (q2k f),0):=by
 unfold ql7;have h4:=hf.ops;obtain ⟨b1,b2,b3,b4,b5,b6⟩:=hf.head;rw [qaa,h0,qad E9,show (0:Int)=((0:Nat):Int) from rfl,zfb f hf fu hfu f.ops 0 fu _ rfl E8 (by simp;omega) E8];congr 3;simp only [q2k,wr8,A6,Da];rw [Ao b1 b2,Ao b3 b4,Ao b5 b6,Ao E8 E8]
theorem q5d {f:GFrame} (h0:qaf f≠0) {fu:Nat}:ql7 fu f=some (strOfNums [],qaf f):=by
 unfold ql7;rw [qaa,qae (by simpa using h0)];rfl
theorem qtb {k:Nat} {α : Type} {l:List α} {a : α} {t:List α} (h:l.drop k=a::t):k<l.length∧l[k]? = some a∧l.drop (k+1)=t:=by
 have h1:=congrArg List.length h;simp only [Ay,X9] at h1;refine ⟨by omega,?_,?_⟩
 ·have:=congrArg (fun x:List α => x[0]?) h;simpa using this
 ·rw [← Do,h];rfl
theorem qqe {k:Nat} {α : Type} {l:List α} (h:l.drop k=[]):l.length≤k:=by
 have h1:=congrArg List.length h;simp only [Ay,Az] at h1;omega
theorem zb3 (f:GFrame) (hf:FOk f) (fu:Nat) (hfu:7≤fu):∀ (ra rv:List Int) (k n:Nat) (a:List Int),f.at_.drop k=ra→f.vals.drop k=rv→ra.length<n→a.length+7*ra.length≤90000 →
 qbn fu f n (strOfNums a) (k:Int)=some (strOfNums (a++(ra.zip rv).flatMap qcg),0):=by
 intro ra
 induction ra with
 | nil =>
  intro rv k n a ha hv hn hl;obtain ⟨n,rfl⟩:∃ m,n=m+1:=⟨n-1,by simp at hn;omega⟩;have:=qqe ha;rw [qbn,qad (qab E8)];simp
 | cons x t ih =>
  intro rv k n a ha hv hn hl;obtain ⟨n,rfl⟩:∃ m,n=m+1:=⟨n-1,by simp at hn;omega⟩;obtain ⟨hk2,hga,ha2⟩:=qtb ha;have h4:=hf.at_;cases rv with
  | nil=>have:=qqe hv;have:=hf.vals;omega
  | cons v u =>
   obtain ⟨_,hgv,hv2⟩:=qtb hv;have hv3:=hf.val v (X7 hgv);have ha3:=hf.ats x (X7 hga);simp only [X9] at hl hn;rw [qbn,qae (qac E8),qap,hga,qaa,qap,hgv,qaa,qaa,qsb hfu hv3.1 hv3.2,qaa,qhq (by simp [qjg]),qaa,qhq (by simp [qjg];omega),qaa,
    qa2 E8 E8,show (k:Int)+1=((k+1:Nat):Int) from rfl,ih u (k+1) n _ ha2 hv2 E8 (by simp [qjg];omega)]
   congr 3;simp only [List.zip_cons_cons,A8,qcg,Al,Bj,Am];rw [Ao ha3.1 E8]
theorem zb4 (f:GFrame) (hf:FOk f) (fu:Nat) (hfu:40≤fu):∀ (ra:List Int) (k n:Nat) (a:List Int),f.deps.drop k=ra→ra.length<n→a.length+ra.length≤80000 →
 qbo fu f n (strOfNums a) (k:Int)=some (strOfNums (a++(ra++([(f.at_.length:Int)]++(f.at_.zip f.vals).flatMap qcg))),0):=by
 intro ra
 induction ra with
 | nil =>
  intro k n a ha hn hl;obtain ⟨n,rfl⟩:∃ m,n=m+1:=⟨n-1,by simp at hn;omega⟩;have:=qqe ha;have h4:=hf.at_;simp only [Az] at hl;rw [qbo,qad (qab E8),qaa,qhq (by simp;omega),qaa,show (0:Int)=((0:Nat):Int) from rfl,zb3 f hf fu E8 f.at_ f.vals 0 fu _ rfl rfl E8 (by simp;omega)];congr 3;simp only [Al,Am];rw [Ao E8 E8]
 | cons x t ih =>
  intro k n a ha hn hl;obtain ⟨n,rfl⟩:∃ m,n=m+1:=⟨n-1,by simp at hn;omega⟩;obtain ⟨hk2,hga,ha2⟩:=qtb ha;have ha3:=hf.dep x (X7 hga);have h32:=hf.deps;simp only [X9] at hl hn;rw [qbo,qae (qac E8),qap,hga,qaa,qaa,qhq (by simp;omega),qaa,qa2 E8 E8,show (k:Int)+1=((k+1:Nat):Int) from rfl,ih (k+1) n _ ha2 E8 (by simp;omega)];congr 3;simp only [Al,Bj,Am];rw [Ao ha3.1 E8]
theorem zb5 (f:GFrame) (hf:FOk f) (fu:Nat) (hfu:40≤fu):∀ (ra:List GOp) (k n:Nat) (a:List Int),f.ops.drop k=ra→ra.length<n→a.length+8*ra.length≤70000 →
 qbp fu f n (strOfNums a) (k:Int)=some (strOfNums (a++(ra.flatMap qhr++([(f.deps.length:Int)]++(f.deps++([(f.at_.length:Int)]++(f.at_.zip f.vals).flatMap qcg))))),0):=by
 intro ra
 induction ra with
 | nil =>
  intro k n a ha hn hl;obtain ⟨n,rfl⟩:∃ m,n=m+1:=⟨n-1,by simp at hn;omega⟩;have:=qqe ha;have h4:=hf.deps;simp only [Az] at hl;rw [qbp,qad (qab E8),qaa,qhq (by simp;omega),qaa,show (0:Int)=((0:Nat):Int) from rfl,zb4 f hf fu hfu f.deps 0 fu _ rfl E8 (by simp;omega)];congr 3;simp only [Al,Am,List.flatMap_nil];rw [Ao E8 E8]
 | cons x t ih =>
  intro k n a ha hn hl;obtain ⟨n,rfl⟩:∃ m,n=m+1:=⟨n-1,by simp at hn;omega⟩;obtain ⟨hk2,hga,ha2⟩:=qtb ha;obtain ⟨b1,b2,b3,b4,b5,b6⟩:=hf.op x (X7 hga);have h4:=hf.ops;simp only [X9] at hl hn;rw [qbp,qae (qac E8),qap,hga,qaa,qaa,qaa,qaa,qhq (by simp),qaa,qsb E8 b5 b6,qaa,qhq (by simp [qjg]),qaa,qhq (by simp [qjg];omega),qaa,
   qa2 E8 E8,show (k:Int)+1=((k+1:Nat):Int) from rfl,ih (k+1) n _ ha2 E8 (by simp [qjg];omega)]
  congr 3;simp only [A8,qhr,Al,Bj,Am];rw [Ao b1 b2,Ao b3 b4]
theorem qub {f:GFrame} (hf:FOk f) (h0:qaf f=0) {fu:Nat} (hfu:40≤fu):qc2 fu f=some (strOfNums (q2k f),0):=by
 unfold qc2;have h4:=hf.ops;obtain ⟨b1,b2,b3,b4,b5,b6⟩:=hf.head;rw [qaa,h0,qad E9,qaa,qaa,qhq (by simp),qaa,qaa,qhq (by simp),qaa,qaa,qhq (by simp),qaa,show (0:Int)=((0:Nat):Int) from rfl,zb5 f hf fu hfu f.ops 0 fu _ rfl E8 (by simp;omega)];congr 3;simp only [q2k,Bj,Am];rw [Ao b1 b2,Ao b3 b4,Ao b5 b6,Ao E8 E8]
theorem quc {f:GFrame} (h0:qaf f≠0) {fu:Nat}:qc2 fu f=some (strOfNums [],qaf f):=by
 unfold qc2;rw [qaa,qae (by simpa using h0)];rfl
abbrev Dt := @List.getElem_of_mem
theorem qz7 {l:List Int} (h:qam l=true):∀ i,i<l.length→(i:Int)≤l.getD i 0∧l.getD i 0<32:=by
 unfold qam at h;rw [qfd] at h;intro i
 induction i with
 | zero =>
  intro hi;have:=h 0 hi;unfold qhs at this;simp only [X1,decide_eq_true_eq] at this;exact ⟨by have:=this.1.1;simpa using this,this.1.2⟩
 | succ i ih =>
  intro hi;have h1:=ih E8;have:=h (i+1) hi;unfold qhs at this;simp only [X1,decide_eq_true_eq,Dh,beq_iff_eq,Df] at this;refine ⟨?_,this.1.2⟩;rcases this.2 with h2 | h2
  ·omega
  ·push_cast;omega
theorem qke {l:List Int} (h:qam l=true):l.length≤32:=by
 rcases Dq 32 l.length with h1 | h1
 ·have:=qz7 h 32 h1;omega
 ·exact h1
theorem q5e {l:List Int} (h:qam l=true):∀ n∈l,0≤n∧n<32:=by
 intro n hn;obtain ⟨i,hi,rfl⟩:=Dt hn;have:=qz7 h i hi;rw [As,Xy hi] at this;simp only [Ae] at this;omega
theorem qc6 {l:List GOp} (h:qaj l=true):0<l.length∧l.length≤4:=by
 unfold qaj at h;simp only [X1,decide_eq_true_eq] at h;omega
theorem qud {l:List GOp} (h:qaj l=true):∀ o∈l,1≤o.kind∧o.kind≤3∧0≤o.key∧o.key<8 ∧ -1099511627776≤o.n∧o.n≤1099511627776:=by
 intro o ho;unfold qaj at h;simp only [X1] at h;have h1:=(qfd _ _).1 h.1;obtain ⟨i,hi,rfl⟩:=Dt ho;have:=h1 i hi;unfold q8w at this;rw [As,Xy hi] at this;simp only [Ae,X1] at this;have:=this.1;unfold qcq at this;simp only [decide_eq_true_eq] at this;omega
theorem q37 {f:GFrame} (h:qaf f=0):FOk f:=by
 unfold qaf at h;split at h
 ·cases h
 ·rename_i hk;split at h
  ·cases h
  ·rename_i hn;split at h
   ·rename_i hp;simp only [X1] at hp;obtain ⟨h1,h2,h3⟩:=hp;have ho:f.ops.length≤4∧∀ o∈f.ops,0≤o.kind∧o.kind<256∧0≤o.key∧o.key<256 ∧ -1099511627776≤o.n∧o.n≤1099511627776:=by
     unfold qf4 at h1;split at h1
     ·refine ⟨(qc6 h1).2,fun o ho=>?_⟩;have:=qud h1 o ho;omega
     ·have:f.ops=[]:=Av.1 (by simpa using h1);rw [this];simp
    have hd:f.deps.length≤32∧∀ n∈f.deps,0≤n∧n<32:=by
     unfold qd6 at h2;split at h2
     ·simp only [X1] at h2;exact ⟨qke h2.1,q5e h2.1⟩
     ·have:f.deps=[]:=Av.1 (by simpa using h2);rw [this];simp
    unfold qlp at h3;simp only [X1,beq_iff_eq] at h3;obtain ⟨_,h4,h5,h6⟩:=h3;rw [qfd] at h5 h6;have ha:∀ i,i<f.at_.length→(i:Int)≤f.at_.getD i 0∧f.at_.getD i 0<4:=by
     intro i
     induction i with
     | zero =>
      intro hi;have:=h5 0 hi;unfold qy8 at this;simp only [X1,decide_eq_true_eq] at this;exact ⟨by have:=this.1.1;simpa using this,this.1.2⟩
     | succ i ih =>
      intro hi;have e1:=ih E8;have:=h5 (i+1) hi;unfold qy8 at this;simp only [X1,decide_eq_true_eq,Dh,beq_iff_eq,Df] at this;refine ⟨?_,this.1.2⟩;rcases this.2 with e2 | e2
      ·omega
      ·push_cast;omega
    have hl:f.at_.length≤4:=by
     rcases Dq 4 f.at_.length with e1 | e1
     ·have:=ha 4 e1;omega
     ·exact e1
    refine ⟨ho.1,ho.2,hd.1,hd.2,hl,fun n hn=>?_,h4.symm,fun v hv=>?_,by omega⟩
    ·obtain ⟨i,hi,rfl⟩:=Dt hn;have:=ha i hi;rw [As,Xy hi] at this;simp only [Ae] at this;omega
    ·obtain ⟨i,hi,rfl⟩:=Dt hv;have:=h6 i hi;unfold qo4 at this;rw [As,Xy hi] at this;simpa using this
   ·cases h
def qz8 (f:GFrame):ByteArray × Int:=if qaf f=0 then (strOfNums (q2k f),0) else (strOfNums [],qaf f)
theorem q5f (f:GFrame) {fu:Nat} (hfu:40≤fu):ql7 fu f=some (qz8 f):=by
 unfold qz8;by_cases h:qaf f=0
 ·rw [if_pos h,q5c (q37 h) h hfu]
 ·rw [if_neg h,q5d h]
theorem que (f:GFrame) {fu:Nat} (hfu:40≤fu):qc2 fu f=some (qz8 f):=by
 unfold qz8;by_cases h:qaf f=0
 ·rw [if_pos h,qub (q37 h) h hfu]
 ·rw [if_neg h,quc h]
abbrev Dg := @List.take_of_length_le
abbrev Es := @Int.eq_ofNat_of_zero_le
abbrev D0 := @Int.zero_add
abbrev Ds := @Option.bind_some
def byL (s:ByteArray):List Int:=s.data.toList.map fun b=>(b.toNat:Int)
theorem qgl (s:ByteArray):(byL s).length=s.size:=by
 unfold byL;rw [Bs];rfl
theorem qde {s:ByteArray} {c:Int} (h:c∈byL s):0≤c∧c<256:=by
 unfold byL at h;obtain ⟨b,_,rfl⟩:=Ee.1 h;have:=b.toNat_lt;omega
theorem qml (s:ByteArray) (k:Nat):qjv s (k:Int)=(byL s)[k]? := by
 unfold qjv byL;rw [if_pos (Bx k),Aw];have e:((k:Int)).toNat=k:=rfl;rw [e];by_cases hk:k<s.size
 ·have h2:k<s.data.toList.length:=hk;rw [Xy h2];have:s[k]? = some s[k]:=getElem?_pos s k hk;rw [this];rfl
 ·have h2:s.data.toList.length≤k:=by have:s.data.toList.length=s.size:=rfl;omega
  rw [Bl h2];have:s[k]? = none:=getElem?_neg s k hk;rw [this]
theorem qye {s:ByteArray} {k:Nat} (hk:k≤s.size):∃ s',qr4 s (some (k:Int)) none=some s'∧byL s'=(byL s).drop k:=by
 unfold qr4 qg2;simp only [Ae,Bi];rw [if_pos E8];refine ⟨_,rfl,?_⟩;unfold byL;rw [Go.Lib.extract_data,← E5];congr 1;have e:((s.size:Int)).toNat=s.size:=rfl;have e2:((k:Int)).toNat=k:=rfl;simp only [e,e2];refine Dg ?_;have:s.data.toList.length=s.size:=rfl;rw [Ay];omega
theorem qkf {s:ByteArray}:(s.toList==(⟨#[]⟩:ByteArray).toList)=(byL s).isEmpty:=by
 rw [ByteArray.toList_eq,ByteArray.toList_eq,Ap];unfold byL;simp
def q6a (a b c d e f:Int):Int:=((((a*256+b)*256+c)*256+d)*256+e)*256+f-140737488355328
def q38:Nat→List Int→Option (List GOp × List Int)
 | 0,l=>some ([],l)
 | n+1,k::y::a::b::c::d::e::f::t=>(q38 n t).map fun p=>(⟨k,y,q6a a b c d e f⟩::p.1,p.2)
 | _+1,_=>none
def q2l (n:Nat) (l:List Int):Option (List Int × List Int):=if n≤l.length then some (l.take n,l.drop n) else none
def qrk:Nat→List Int→Option (List Int × List Int × List Int)
 | 0,l=>some ([],[],l)
 | n+1,k::a::b::c::d::e::f::t=>(qrk n t).map fun p=>(k::p.1,q6a a b c d e f::p.2.1,p.2.2)
 | _+1,_=>none
def qz9 (kd nd id:Int) (os:List GOp) (ds:List Int):List Int→Option (GFrame × List Int)
 | k::u=>(qrk k.toNat u).map fun z=>(⟨kd,nd,id,os,ds,z.1,z.2.1⟩,z.2.2)
 | []=>none
def q2m (kd nd id:Int) (os:List GOp):List Int→Option (GFrame × List Int)
 | m::r=>(q2l m.toNat r).bind fun q=>qz9 kd nd id os q.1 q.2
 | []=>none
def quf:List Int→Option (GFrame × List Int)
 | kd::nd::id::no::t=>(q38 no.toNat t).bind fun p=>q2m kd nd id p.1 p.2
 | _=>none
def noF:GFrame:=⟨0,0,0,[],[],[],[]⟩
def q80:Option (GFrame × List Int)→GFrame × Int
 | some (f,[])=>bif qaf f==0 then (f,0) else (noF,1)
 | _=>(noF,1)
def qoa (l:List Int):GFrame × Int:=q80 (quf l)
structure Rd8 (x:GReader) (l:List Int):Prop where
 s:byL x.s=l
 ok:x.bad=false
 small:x.s.size≤140737488351232
def q1h (x:GReader):Prop:=x.bad=true∧x.s.size≤140737488351232
theorem qbx {fu:Nat} {x:GReader} {c:Int} {t:List Int} (h:Rd8 x (c::t)):∃ x',qdy fu x=some (c,x')∧Rd8 x' t:=by
 have hlen:=qgl x.s;rw [h.s,X9] at hlen;obtain ⟨s',h1,h2⟩:=qye (s:=x.s) (k:=1) E8;have h1:qr4 x.s (some 1) none=some s':=h1;have hs':=qgl s';rw [h2,Ay,qgl] at hs';have hsm:=h.small;have hi:qjv x.s 0=some c:=by
  have:=qml x.s 0;rw [h.s] at this;exact this
 have hc:=qde (s:=x.s) (c:=c) (by rw [h.s];exact X2);refine ⟨{ x with s:=s' },?_,⟨by rw [h2,h.s];rfl,h.ok,by show s'.size≤_;omega⟩⟩;unfold qdy;rw [qkf,h.s,qad (by rfl),hi,qaa,h1,qaa,qfh E8,qaa,qaa,qa2 E8 E8]
theorem qd0 {fu:Nat} {x:GReader} (h:Rd8 x []):∃ x',qdy fu x=some (0,x')∧q1h x':=by
 refine ⟨{ x with bad:=true },?_,rfl,h.small⟩;unfold qdy;rw [qkf,h.s,qae (by rfl),qaa]
theorem qmm {fu:Nat} {x:GReader} (h:q1h x):∃ v x',qdy fu x=some (v,x')∧q1h x':=by
 cases hl:byL x.s with
 | nil =>
  refine ⟨0,{ x with bad:=true },?_,rfl,h.2⟩;unfold qdy;rw [qkf,hl,qae (by rfl),qaa]
 | cons c t =>
  have hlen:=qgl x.s;rw [hl,X9] at hlen;obtain ⟨s',h1,h2⟩:=qye (s:=x.s) (k:=1) E8;have h1:qr4 x.s (some 1) none=some s':=h1;have hs':=qgl s';rw [h2,Ay,qgl] at hs';have hsm:=h.2;have hi:qjv x.s 0=some c:=by
   have:=qml x.s 0;rw [hl] at this;exact this
  refine ⟨IntKind.wrap .i64 c,{ x with s:=s' },?_,h.1,by show s'.size≤_;omega⟩;unfold qdy;rw [qkf,hl,qad (by rfl),hi,qaa,h1,qaa,qfh E8,qaa,qaa]
theorem q39 {y c:Int} (h0:0≤y) (h1:y<1099511627776) (hc0:0≤c) (hc1:c<256):orI .i64 (IntKind.wrap .i64 (y*2 ^ (min (Int.toNat 8) (IntKind.bits .i64)))) c=y*256+c:=by
 have e:(2:Int) ^ (min (Int.toNat 8) (IntKind.bits .i64))=256:=by decide
 rw [e,qa2 E8 E8];obtain ⟨a,rfl⟩:=Es h0;obtain ⟨b,rfl⟩:=Es hc0;exact q94 a b E8 E8
theorem qjp {fu:Nat}:∀ (n m:Nat) (x:GReader) (y:Int) (k:Int),(6-k).toNat=m→0≤k→m<n→q1h x→∃ v x',qbm fu n x y k=some (v,x')∧q1h x'
 | 0,m,x,y,k,_,_,h,_=>absurd h E8
 | n+1,m,x,y,k,hm,hk,hn,hx=>by
  rw [qbm];by_cases h:k<6
  ·obtain ⟨v,x',h1,h2⟩:=qmm (fu:=fu) hx;rw [qae (qac h),h1,qaa,qa2 (x:=k+1) E8 E8];exact qjp n (m-1) x' _ (k+1) E8 E8 E8 h2
  ·rw [qad (qab h)];exact ⟨_,x,rfl,hx⟩
theorem qmn {fu:Nat} (hf:8≤fu) {x:GReader} (hx:q1h x):∃ v x',qh1 fu x=some (v,x')∧q1h x':=qjp fu 6 x 0 0 rfl E8 E8 hx
theorem qe7 {fu n:Nat} {x:GReader} {c:Int} {t:List Int} (h:Rd8 x (c::t)) {y k:Int} (hk:k<6) (hk0:0≤k) (h0:0≤y) (h1:y<1099511627776):∃ x',qbm fu (n+1) x y k=qbm fu n x' (y*256+c) (k+1)∧Rd8 x' t:=by
 obtain ⟨x',h2,h3⟩:=qbx (fu:=fu) h;have hc:=qde (s:=x.s) (c:=c) (by rw [h.s];exact X2);refine ⟨x',?_,h3⟩;rw [qbm,qae (qac hk),h2,qaa,q39 h0 h1 hc.1 hc.2,qa2 (x:=k+1) E8 E8]
theorem qug {fu:Nat} (hf:8≤fu) {x:GReader} {a b c d e f:Int} {t:List Int} (h:Rd8 x (a::b::c::d::e::f::t)):∃ x',qh1 fu x=some (q6a a b c d e f,x')∧Rd8 x' t:=by
 have hr:∀ z∈[a,b,c,d,e,f],0≤z∧z<256:=fun z hz=>qde (s:=x.s) (by rw [h.s];simp at hz ⊢;rcases hz with rfl | rfl | rfl | rfl | rfl | rfl<;>simp);have ha:=hr a (by simp);have hb:=hr b (by simp);have hc:=hr c (by simp);have hd:=hr d (by simp);have he:=hr e (by simp);have hff:=hr f (by simp);obtain ⟨n,rfl⟩:∃ n,fu=n+7:=⟨fu-7,by omega⟩;obtain ⟨x1,e1,r1⟩:=qe7 (fu:=n+7) (n:=n+6) h (y:=0) (k:=0) E8 E8 E8 E8;obtain ⟨x2,e2,r2⟩:=qe7 (fu:=n+7) (n:=n+5) r1 (y:=0*256+a) (k:=0+1) E8 E8 E8 E8;obtain ⟨x3,e3,r3⟩:=qe7 (fu:=n+7) (n:=n+4) r2 (y:=(0*256+a)*256+b) (k:=0+1+1) E8 E8 E8 E8;obtain ⟨x4,e4,r4⟩:=qe7 (fu:=n+7) (n:=n+3) r3 (y:=((0*256+a)*256+b)*256+c) (k:=0+1+1+1) E8 E8 E8 E8;obtain ⟨x5,e5,r5⟩:=qe7 (fu:=n+7) (n:=n+2) r4 (y:=(((0*256+a)*256+b)*256+c)*256+d) (k:=0+1+1+1+1) E8 E8 E8 E8;obtain ⟨x6,e6,r6⟩:=qe7 (fu:=n+7) (n:=n+1) r5 (y:=((((0*256+a)*256+b)*256+c)*256+d)*256+e) (k:=0+1+1+1+1+1) E8 E8 E8 E8;refine ⟨x6,?_,r6⟩;unfold qh1;rw [e1,e2,e3,e4,e5,e6,qbm,qad (by rfl),qa2 E8 E8];unfold q6a;rw [Int.zero_mul,D0]
theorem qlt {fu:Nat}:∀ (t:List Int) (n:Nat) (x:GReader) (y k:Int),Rd8 x t→(t.length:Int)+k<6→0≤k→(6-k).toNat<n→∃ v x',qbm fu n x y k=some (v,x')∧q1h x'
 | _,0,x,y,k,_,_,_,h=>absurd h E8
 | [],n+1,x,y,k,hx,hs,hk,hn=>by
  obtain ⟨x',h1,h2⟩:=qd0 (fu:=fu) hx;simp at hs;rw [qbm,qae (qac hs),h1,qaa,qa2 (x:=k+1) E8 E8];exact qjp n (6-(k+1)).toNat x' _ (k+1) rfl E8 E8 h2
 | c::t,n+1,x,y,k,hx,hs,hk,hn=>by
  obtain ⟨x',h1,h2⟩:=qbx (fu:=fu) hx;simp at hs;rw [qbm,qae (qac E8),h1,qaa,qa2 (x:=k+1) E8 E8];exact qlt t n x' _ (k+1) h2 E8 E8 E8
theorem qog {fu:Nat} (hf:8≤fu) {x:GReader} {t:List Int} (h:Rd8 x t) (hs:t.length<6):∃ v x',qh1 fu x=some (v,x')∧q1h x':=qlt t fu x 0 0 h E8 E8 E8
section
variable {fu:Nat}
theorem qn1 {n:Nat} {x:GReader} {d:GFrame} {y:Int} (hx:q1h x):qcx fu (n+1) x d y=some (noF,1):=by
 rw [qcx];unfold qi0 qiz;rw [hx.1];cases decide (y>0)<;>rfl
theorem qrl {n:Nat} (hf:8≤fu) {x:GReader} {d:GFrame} {y:Int} (hx:q1h x):qdd fu (n+1) x d y=some (noF,1):=by
 obtain ⟨v,x',h1,h2⟩:=qmm (fu:=fu) hx;obtain ⟨m,rfl⟩:∃ m,fu=m+1:=⟨fu-1,by omega⟩;have h3:=qn1 (fu:=m+1) (n:=m) (d:=d) (y:=v) h2;rw [qdd];unfold qi1;rw [hx.1];cases decide (y>0)
 ·simp only [cond_false];rw [h1,qaa];exact h3
 ·simp only [cond_true,Ab,cond_false];rw [h1,qaa];exact h3
theorem qwx {n:Nat} (hf:8≤fu) {x:GReader} {d:GFrame} {y:Int} (hx:q1h x):qcy fu (n+1) x d y=some (noF,1):=by
 obtain ⟨v,x',h1,h2⟩:=qmm (fu:=fu) hx;obtain ⟨m,rfl⟩:∃ m,fu=m+1:=⟨fu-1,by omega⟩;have h3:=qrl (fu:=m+1) (n:=m) hf (d:=d) (y:=v) h2;rw [qcy];unfold qi2;rw [hx.1];cases decide (y>0)
 ·simp only [cond_false];rw [h1,qaa];exact h3
 ·simp only [cond_true,Ab,cond_false];rw [h1,qaa];exact h3
theorem zb6 {x:GReader} {l:List Int} (hx:Rd8 x l) {n:Nat} {d:GFrame} {y:Int} (hy:¬ y>0):qcx fu (n+1) x d y=some (q80 (some (d,l))):=by
 rw [qcx,qad (qab hy)];unfold qi0 qiz qp5;rw [qad rfl,hx.ok,qad rfl,qkf,hx.s];cases l with
 | nil =>
  rw [qad (by rfl),qaa];have e0:q80 (some (d,[]))=bif qaf d==0 then (d,0) else (noF,1):=rfl;rw [e0];by_cases h:qaf d=0
  ·rw [h];rfl
  ·have e1:(qaf d != 0)=true:=by simp [h]
   have e2:(qaf d==0)=false:=by simp [h]
   rw [e1,e2];rfl
 | cons c t=>rfl
theorem q0a (hf:12≤fu):∀ (m n:Nat) (x:GReader) (l:List Int) (d:GFrame),m<n→m<256→d.at_.length+m≤300→d.vals.length+m≤300→Rd8 x l →
 qcx fu n x d m=some (q80 ((qrk m l).map fun z=>({ d with at_:=d.at_++z.1,vals:=d.vals++z.2.1 },z.2.2)))
 | m,0,_,_,_,h,_,_,_,_=>absurd h E8
 | 0,n+1,x,l,d,_,_,_,_,hx=>by
  rw [zb6 hx E8,qrk];have e:({ d with at_:=d.at_++[],vals:=d.vals++[] }:GFrame)=d:=by simp
  simp only [Option.map_some];rw [e]
 | m+1,n+1,x,l,d,hn,hm,ha,hv,hx=>by
  have hy:(((m+1:Nat):Int))>0:=by omega
  have e1:IntKind.wrap .i64 (((m+1:Nat):Int)-1)=(m:Int):=by rw [qa2 E8 E8];omega
  rw [qcx,qae (qac hy)];unfold qi0 qp4;rw [hx.ok,qae (c := !false) rfl];cases l with
  | nil =>
   obtain ⟨x',h1,h2⟩:=qd0 (fu:=fu) hx;obtain ⟨v,x2,h3,h4⟩:=qmn (fu:=fu) E8 h2;simp only [h1,h3,qaa];rw [qas (by have:Rep.bytes Int=8:=rfl;rw [this];simp;omega),qaa,qas (by have:Rep.bytes Int=8:=rfl;rw [this];simp;omega),qaa,e1];obtain ⟨n,rfl⟩:∃ q,n=q+1:=⟨n-1,by omega⟩;rw [qn1 h4];rfl
  | cons k t =>
   obtain ⟨x',h1,h2⟩:=qbx (fu:=fu) hx;by_cases h6:t.length<6
   ·obtain ⟨v,x2,h3,h4⟩:=qog (fu:=fu) E8 h2 h6;simp only [h1,h3,qaa];rw [qas (by have:Rep.bytes Int=8:=rfl;rw [this];simp;omega),qaa,qas (by have:Rep.bytes Int=8:=rfl;rw [this];simp;omega),qaa,e1];obtain ⟨n,rfl⟩:∃ q,n=q+1:=⟨n-1,by omega⟩;rw [qn1 h4];have:qrk (m+1) (k::t)=none:=by
     match t,h6 with
     | [],_=>rfl
     | [_],_=>rfl
     | [_,_],_=>rfl
     | [_,_,_],_=>rfl
     | [_,_,_,_],_=>rfl
     | [_,_,_,_,_],_=>rfl
     | _::_::_::_::_::_::_,h=>simp at h;omega
    rw [this];rfl
   ·obtain ⟨a,b,c,e,f,g,u,rfl⟩:∃ a b c e f g u,t=a::b::c::e::f::g::u:=by
     match t,h6 with
     | [],h=>simp at h
     | [_],h=>simp at h
     | [_,_],h=>simp at h
     | [_,_,_],h=>simp at h
     | [_,_,_,_],h=>simp at h
     | [_,_,_,_,_],h=>simp at h
     | a::b::c::e::f::g::u,_=>exact ⟨a,b,c,e,f,g,u,rfl⟩
    obtain ⟨x2,h3,h4⟩:=qug (fu:=fu) E8 h2;simp only [h1,h3,qaa];rw [qas (by have:Rep.bytes Int=8:=rfl;rw [this];simp;omega),qaa,qas (by have:Rep.bytes Int=8:=rfl;rw [this];simp;omega),qaa,e1];rw [q0a hf m n x2 u { d with at_:=d.at_++[k],vals:=d.vals++[q6a a b c e f g] } E8 E8 (by simp;omega) (by simp;omega) h4,qrk];cases hp:qrk m u with
    | none=>rfl
    | some p=>simp []
theorem q0b (hf:300≤fu):∀ (m n:Nat) (x:GReader) (l:List Int) (d:GFrame),m<n→m<256→d.deps.length+m≤300→d.at_=[]→d.vals=[]→Rd8 x l→(∀ c∈l,0≤c∧c<256) →
 qdd fu n x d m=some (q80 ((q2l m l).bind fun q=>qz9 d.kind d.node d.id d.ops (d.deps++q.1) q.2))
 | m,0,_,_,_,h,_,_,_,_,_,_=>absurd h E8
 | 0,n+1,x,l,d,_,_,_,ha,hv,hx,hr=>by
  rw [qdd,qad (qab E8)];unfold qi1;rw [qad rfl];cases l with
  | nil =>
   obtain ⟨x',h1,h2⟩:=qd0 (fu:=fu) hx;obtain ⟨q,rfl⟩:∃ q,fu=q+1:=⟨fu-1,by omega⟩;rw [h1,qaa];simp only;rw [qn1 h2];rfl
  | cons k u =>
   obtain ⟨x',h1,h2⟩:=qbx (fu:=fu) hx;have hk:=hr k X2;rw [h1,qaa];simp only;have e:k=((k.toNat:Nat):Int):=by omega
   have h3:=q0a (fu:=fu) E8 k.toNat fu x' u d E8 E8 (by rw [ha];simp;omega) (by rw [hv];simp;omega) h2;rw [← e] at h3;rw [h3,ha,hv];simp [q2l,qz9]
 | m+1,n+1,x,l,d,hn,hm,hd,ha,hv,hx,hr=>by
  have hy:(((m+1:Nat):Int))>0:=by omega
  have e1:IntKind.wrap .i64 (((m+1:Nat):Int)-1)=(m:Int):=by rw [qa2 E8 E8];omega
  rw [qdd,qae (qac hy)];unfold qi1 qp3;rw [hx.ok,qae (c := !false) rfl];cases l with
  | nil =>
   obtain ⟨x',h1,h2⟩:=qd0 (fu:=fu) hx;simp only [h1,qaa];rw [qas (by have:Rep.bytes Int=8:=rfl;rw [this];simp;omega),qaa,e1];obtain ⟨n,rfl⟩:∃ q,n=q+1:=⟨n-1,by omega⟩;rw [qrl E8 h2];rfl
  | cons k t =>
   obtain ⟨x',h1,h2⟩:=qbx (fu:=fu) hx;simp only [h1,qaa];rw [qas (by have:Rep.bytes Int=8:=rfl;rw [this];simp;omega),qaa,e1];rw [q0b hf m n x' t { d with deps:=d.deps++[k] } E8 E8 (by simp;omega) ha hv h2 (fun c hc=>hr c (X0 _ hc))];unfold q2l;by_cases hle:m≤t.length
   ·rw [if_pos hle,if_pos (show m+1≤(k::t).length by simp;exact hle)];simp only [List.take_succ_cons,List.drop_succ_cons,Al,Bj,Am,Ds]
   ·rw [if_neg hle,if_neg (show ¬ m+1≤(k::t).length by simp;omega)];rfl
theorem qrm {m:Nat} {t:List Int} (h:t.length<8):q38 (m+1) t=none:=by
 match t,h with
 | [],_=>rfl
 | [_],_=>rfl
 | [_,_],_=>rfl
 | [_,_,_],_=>rfl
 | [_,_,_,_],_=>rfl
 | [_,_,_,_,_],_=>rfl
 | [_,_,_,_,_,_],_=>rfl
 | [_,_,_,_,_,_,_],_=>rfl
 | _::_::_::_::_::_::_::_::_,h=>simp at h;omega
theorem q4a {t:List Int} (h:¬ t.length<8):∃ k y a b c d e f u,t=k::y::a::b::c::d::e::f::u:=by
 match t,h with
 | [],h=>simp at h
 | [_],h=>simp at h
 | [_,_],h=>simp at h
 | [_,_,_],h=>simp at h
 | [_,_,_,_],h=>simp at h
 | [_,_,_,_,_],h=>simp at h
 | [_,_,_,_,_,_],h=>simp at h
 | [_,_,_,_,_,_,_],h=>simp at h
 | k::y::a::b::c::d::e::f::u,_=>exact ⟨k,y,a,b,c,d,e,f,u,rfl⟩
theorem q0c (hf:300≤fu):∀ (m n:Nat) (x:GReader) (l:List Int) (d:GFrame),m<n→m<256→d.ops.length+m≤300→d.deps=[]→d.at_=[]→d.vals=[]→Rd8 x l→(∀ c∈l,0≤c∧c<256) →
 qcy fu n x d m=some (q80 ((q38 m l).bind fun p=>q2m d.kind d.node d.id (d.ops++p.1) p.2))
 | m,0,_,_,_,h,_,_,_,_,_,_,_=>absurd h E8
 | 0,n+1,x,l,d,_,_,_,hdd,ha,hv,hx,hr=>by
  rw [qcy,qad (qab E8)];unfold qi2;rw [qad rfl,q38];simp only [Option.bind_some,List.append_nil];cases l with
  | nil =>
   obtain ⟨x',h1,h2⟩:=qd0 (fu:=fu) hx;obtain ⟨q,rfl⟩:∃ q,fu=q+1:=⟨fu-1,by omega⟩;rw [h1,qaa];simp only;rw [qrl E8 h2];rfl
  | cons k u =>
   obtain ⟨x',h1,h2⟩:=qbx (fu:=fu) hx;have hk:=hr k List.mem_cons_self;rw [h1,qaa];simp only;have e:k=((k.toNat:Nat):Int):=by omega
   have h3:=q0b (fu:=fu) hf k.toNat fu x' u d E8 E8 (by rw [hdd];simp;omega) ha hv h2 (fun c hc=>hr c (List.mem_cons_of_mem _ hc));rw [← e] at h3;rw [h3,hdd];simp [q2m]
 | m+1,n+1,x,l,d,hn,hm,ho,hdd,ha,hv,hx,hr=>by
  have hy:(((m+1:Nat):Int))>0:=by omega
  have e1:IntKind.wrap .i64 (((m+1:Nat):Int)-1)=(m:Int):=by rw [qa2 E8 E8];omega
  rw [qcy,qae (qac hy)];unfold qi2 qp2;rw [hx.ok,qae (c := !false) rfl];by_cases h8:l.length<8
  ·rw [qrm h8];have hbad:∃ v1 x1 v2 x2 v3 x3,qdy fu x=some (v1,x1)∧qdy fu x1=some (v2,x2)∧qh1 fu x2=some (v3,x3)∧q1h x3:=by
    cases l with
    | nil =>
     obtain ⟨x1,h1,r1⟩:=qd0 (fu:=fu) hx;obtain ⟨v2,x2,h2,r2⟩:=qmm (fu:=fu) r1;obtain ⟨v3,x3,h3,r3⟩:=qmn (fu:=fu) E8 r2;exact ⟨_,x1,v2,x2,v3,x3,h1,h2,h3,r3⟩
    | cons c t =>
     obtain ⟨x1,h1,r1⟩:=qbx (fu:=fu) hx;cases t with
     | nil =>
      obtain ⟨x2,h2,r2⟩:=qd0 (fu:=fu) r1;obtain ⟨v3,x3,h3,r3⟩:=qmn (fu:=fu) E8 r2;exact ⟨_,x1,_,x2,v3,x3,h1,h2,h3,r3⟩
     | cons c2 u =>
      obtain ⟨x2,h2,r2⟩:=qbx (fu:=fu) r1;obtain ⟨v3,x3,h3,r3⟩:=qog (fu:=fu) E8 r2 (by simp at h8;omega);exact ⟨_,x1,_,x2,v3,x3,h1,h2,h3,r3⟩
   obtain ⟨v1,x1,v2,x2,v3,x3,h1,h2,h3,r3⟩:=hbad;simp only [h1,h2,h3,qaa];rw [qas (by have:Rep.bytes GOp=24:=rfl;rw [this];simp;omega),qaa,e1];obtain ⟨n,rfl⟩:∃ q,n=q+1:=⟨n-1,by omega⟩;rw [qwx E8 r3];rfl
  ·obtain ⟨k,y,a,b,c,dd,e,f,u,rfl⟩:=q4a h8;obtain ⟨x1,h1,r1⟩:=qbx (fu:=fu) hx;obtain ⟨x2,h2,r2⟩:=qbx (fu:=fu) r1;obtain ⟨x3,h3,r3⟩:=qug (fu:=fu) E8 r2;simp only [h1,h2,h3,qaa];rw [qas (by have:Rep.bytes GOp=24:=rfl;rw [this];simp;omega),qaa,e1];rw [q0c hf m n x3 u { d with ops:=d.ops++[⟨k,y,q6a a b c dd e f⟩] } E8 E8 (by simp;omega) hdd ha hv r3 (fun z hz=>hr z (by simp [hz])),q38];cases hp:q38 m u with
   | none=>rfl
   | some p=>simp []
theorem qwy (hf:300≤fu) {s:ByteArray} (hs:s.size≤140737488351232):qrh fu s=some (qoa (byL s)):=by
 have hr:∀ c∈byL s,0≤c∧c<256:=fun c hc=>qde hc;have hx:Rd8 { s:=s,bad:=Zr.zd } (byL s):=⟨rfl,rfl,hs⟩;unfold qrh;rw [qfh hs,qaa,qaa];generalize byL s=l at hr hx;have hbad:∀ {x:GReader} {d:GFrame} {y:Int},q1h x→qcy fu fu x d y=some (noF,1):=fun {x d y} h=>by
  obtain ⟨q,hq⟩:∃ q,fu=q+1:=⟨fu-1,by omega⟩;have:=qwx (fu:=fu) (n:=q) E8 (d:=d) (y:=y) h;rw [← hq] at this;exact this
 have b1:∀ {x:GReader},q1h x→∃ v x',qdy fu x=some (v,x')∧q1h x':=fun h=>qmm h
 match l,hx,hr with
 | [],hx,_ =>
  obtain ⟨x1,h1,r1⟩:=qd0 (fu:=fu) hx;obtain ⟨v2,x2,h2,r2⟩:=b1 r1;obtain ⟨v3,x3,h3,r3⟩:=b1 r2;obtain ⟨v4,x4,h4,r4⟩:=b1 r3;simp only [h1,h2,h3,h4,qaa];rw [hbad r4];rfl
 | [a],hx,_ =>
  obtain ⟨x1,h1,r1⟩:=qbx (fu:=fu) hx;obtain ⟨x2,h2,r2⟩:=qd0 (fu:=fu) r1;obtain ⟨v3,x3,h3,r3⟩:=b1 r2;obtain ⟨v4,x4,h4,r4⟩:=b1 r3;simp only [h1,h2,h3,h4,qaa];rw [hbad r4];rfl
 | [a,b],hx,_ =>
  obtain ⟨x1,h1,r1⟩:=qbx (fu:=fu) hx;obtain ⟨x2,h2,r2⟩:=qbx (fu:=fu) r1;obtain ⟨x3,h3,r3⟩:=qd0 (fu:=fu) r2;obtain ⟨v4,x4,h4,r4⟩:=b1 r3;simp only [h1,h2,h3,h4,qaa];rw [hbad r4];rfl
 | [a,b,c],hx,_ =>
  obtain ⟨x1,h1,r1⟩:=qbx (fu:=fu) hx;obtain ⟨x2,h2,r2⟩:=qbx (fu:=fu) r1;obtain ⟨x3,h3,r3⟩:=qbx (fu:=fu) r2;obtain ⟨x4,h4,r4⟩:=qd0 (fu:=fu) r3;simp only [h1,h2,h3,h4,qaa];rw [hbad r4];rfl
 | a::b::c::no::t,hx,hr =>
  obtain ⟨x1,h1,r1⟩:=qbx (fu:=fu) hx;obtain ⟨x2,h2,r2⟩:=qbx (fu:=fu) r1;obtain ⟨x3,h3,r3⟩:=qbx (fu:=fu) r2;obtain ⟨x4,h4,r4⟩:=qbx (fu:=fu) r3;simp only [h1,h2,h3,h4,qaa];have hno:=hr no (by simp);have e:no=((no.toNat:Nat):Int):=by omega
  have h5:=q0c (fu:=fu) hf no.toNat fu x4 t { kind:=a,node:=b,id:=c,ops:=Zr.zd,deps:=Zr.zd,at_:=Zr.zd,vals:=Zr.zd } E8 E8 (by show ([]:List GOp).length+_≤_;simp;omega) rfl rfl rfl r4 (fun z hz=>hr z (by simp [hz]));rw [← e] at h5;rw [h5];rfl
end
abbrev Db := @Int.toNat_natCast
abbrev Bk := @ByteArray.size_extract
abbrev Ai := @List.length_singleton
theorem zfc (k:Nat) (h:k≤17592186043904):IntKind.wrap .i64 ((k:Int)+1)=((k+1:Nat):Int):=by rw [qa2 E8 E8];omega
theorem zfd {s:ByteArray} (h:s.size≤400):strOfNums (([⟨IntKind.wrap .u8 (Int.fdiv (s.size:Int) (2 ^ (min (Int.toNat 8) (IntKind.bits .i64))))⟩,⟨IntKind.wrap .u8 (s.size:Int)⟩]:List Byt).map Byt.val)=strOfNums [(s.size:Int) / 256,(s.size:Int)%256]:=by
 have e:(2:Int) ^ (min (Int.toNat 8) (IntKind.bits .i64))=256:=by decide
 have e1:IntKind.wrap .u8 (Int.fdiv (s.size:Int) (2 ^ (min (Int.toNat 8) (IntKind.bits .i64))))=(s.size:Int) / 256:=by
  rw [e,wr8,Ei _ E8];omega
 have e2:IntKind.wrap .u8 (s.size:Int)=(s.size:Int)%256:=wr8 _;simp only [A6,Da,e1,e2]
theorem qmo {log s:ByteArray} {c:Int} (h:qdl log s=c) (hc:c≠0):qvq log s=log:=by unfold qvq;rw [h,if_neg hc]
theorem quh {fu:Nat} {log s:ByteArray} (hs:s.size≤140737488351232):qnw fu log s=some (qvq log s,qdl log s):=by
 unfold qnw qka;by_cases h1:65536<log.size
 ·have hc:qdl log s=2:=by unfold qdl;rw [if_pos h1]
  rw [qae (qac E8),qmo hc E9,hc]
 ·rw [qad (qab E8)];by_cases h2:s.size=0
  ·have hc:qdl log s=1:=by unfold qdl;rw [if_neg h1,if_pos (.inl h2)]
   rw [qae (qac E8),cond_true,qmo hc E9,hc]
  ·rw [qad (qab E8)];by_cases h3:400<s.size
   ·have hc:qdl log s=1:=by unfold qdl;rw [if_neg h1,if_pos (.inr h3)]
    rw [qac E8,cond_true,qmo hc E9,hc]
   ·rw [qab E8,cond_false,qa2 (x:=(log.size:Int)+2) E8 E8,qa2 E8 E8];by_cases h4:65536<log.size+2+s.size
    ·have hc:qdl log s=5:=by unfold qdl;rw [if_neg h1,if_neg E8,if_pos h4]
     rw [qae (qac E8),qmo hc E9,hc]
    ·have hc:qdl log s=0:=by unfold qdl;rw [if_neg h1,if_neg E8,if_neg h4]
     have hz:(strOfNums [(s.size:Int) / 256,(s.size:Int)%256]).size=2:=rfl;have hw:qvq log s=qlz log s:=by unfold qvq;rw [if_pos hc]
     rw [qad (qab E8),qnv,zfd E8,qwn E8,qaa,qwn (by rw [B6];omega),qaa,hc,hw];rfl
theorem q5g {fu:Nat} {log s:ByteArray} {n:Int} (hs:s.size≤140737488351232):qt6 fu log s n=some (qvr log s n):=by
 unfold qt6;rw [quh hs,qaa];rcases qs4 log s with ⟨h0,h1,h2,h3⟩ | ⟨h0,_⟩
 ·have hw:qvq log s=qlz log s:=by unfold qvq;rw [if_pos h0]
  have hsz:=qnj log s;unfold qvr;rw [h0,hw,qad (by rfl),if_pos rfl];dsimp only;rw [qa2 (x:=((qlz log s).size:Int)-(log.size:Int)) E8 E8,qa2 E8 E8];unfold qr4 qg2;simp only [Ae,Bi];rw [if_pos E8];have e:((log.size:Int)+max 0 (min n (((qlz log s).size:Int)-(log.size:Int)))).toNat=log.size+qio s n:=by
   unfold qio;split
   ·omega
   ·split<;>omega
  rw [e];rfl
 ·unfold qvr;rw [qae (by simpa using h0),if_neg h0]
theorem qyf {s:ByteArray} {k:Nat} (h:k<s.size):qjv s (k:Int)=some ((s[k]).toNat:Int):=by
 unfold qjv;rw [if_pos E8,Db,getElem?_pos s k h];rfl
theorem q70 {s:ByteArray} {k:Nat} (h:k+2≤s.size):orI .i64 (IntKind.wrap .i64 ((IntKind.wrap .i64 (((s[k]).toNat:Nat):Int))*2 ^ (min (Int.toNat 8) (IntKind.bits .i64)))) (IntKind.wrap .i64 (((s[k+1]).toNat:Nat):Int))=((qjo s[k] s[k+1]:Nat):Int):=by
 have h1:=(s[k]).toNat_lt;have h2:=(s[k+1]).toNat_lt;rw [qa2 (x:=(((s[k]).toNat:Nat):Int)) E8 E8,qa2 (x:=(((s[k+1]).toNat:Nat):Int)) E8 E8,q39 E8 E8 E8 E8];unfold qjo;omega
theorem qsc {log:ByteArray} (hl:log.size≤65536):∀ (n m k:Nat) (acc:List ByteArray),log.size≤k+m→m<n→k≤log.size→qwt log acc k→qek log n acc k=some ((qb0 log.data.toList).1,((qb0 log.data.toList).2:Int))
 | 0,m,k,_,_,h,_,_=>absurd h E8
 | n+1,m,k,acc,hk,hn,hkl,h=>by
  have hb:Rep.bytes ByteArray=16:=rfl;have hlen:=h.2.2;have hdl:log.data.toList.length=log.size:=rfl;rw [qek,qa2 (x:=(k:Int)+2) E8 E8];by_cases h2:k+2≤log.size
  ·have hstop:¬ (1≤qjo log[k] log[k+1]∧qjo log[k] log[k+1]≤400∧qjo log[k] log[k+1]≤log.size-k-2)→some (acc,(k:Int))=some ((qb0 log.data.toList).1,((qb0 log.data.toList).2:Int)):=fun hno=>by
    have he:qb0 (log.data.toList.drop k)=([],0):=by
     rw [q36 h2,qrj (by rw [Ay,hdl];omega)]
    rw [qwu h he]
   have hrn:qjo log[k] log[k+1]<65536:=by
    have h1:=(log[k]).toNat_lt;have h2:=(log[k+1]).toNat_lt;unfold qjo;omega
   have hi:=q70 h2;rw [qae (qac E8),qyf E8,qaa,zfc k E8,qyf E8,qaa];simp only [qkc,qp7,qkb,hi];rw [qa2 (x:=(log.size:Int)-(k:Int)) E8 E8,qa2 (x:=(log.size:Int)-(k:Int)-2) E8 E8];generalize hr:qjo log[k] log[k+1]=r at hstop hrn;by_cases c1:r<1
   ·rw [qae (qac E8),cond_true];exact hstop E8
   ·rw [qad (qab E8)];by_cases c2:400<r
    ·rw [qae (qac E8),cond_true];exact hstop E8
    ·rw [qad (qab E8)];by_cases c3:log.size-k-2<r
     ·rw [qac E8,cond_true];exact hstop E8
     ·rw [qab E8,cond_false];have hnext:=q2j h h2 (by rw [hr];omega);rw [hr] at hnext;have e1:IntKind.wrap .i64 ((k:Int)+IntKind.wrap .i64 (2+(r:Int)))=((k+(2+r):Nat):Int):=by
       rw [qa2 (x:=2+(r:Int)) E8 E8,qa2 E8 E8];omega
      have e2:qr4 log (some (IntKind.wrap .i64 ((k:Int)+2))) (some (IntKind.wrap .i64 (IntKind.wrap .i64 ((k:Int)+2)+(r:Int))))=some (log.extract (k+2) (k+2+r)):=by
       rw [qa2 (x:=(k:Int)+2) E8 E8,qa2 E8 E8];unfold qr4 qg2;simp only [Ae];rw [if_pos E8];have e:((k:Int)+2).toNat=k+2:=by omega
       have e':((k:Int)+2+(r:Int)).toNat=k+2+r:=by omega
       rw [e,e'];rfl
      have e3:(log.extract (k+2) (k+2+r)).size≤140737488351232:=by
       rw [Bk];omega
      rw [qa2 (x:=(k:Int)+2) E8 E8] at e2
      first
       | rw [e2,qaa,qfh e3,qaa,qas (by rw [hb];simp only [Ai];omega),qaa,e1]
       | rw [qa2 (x:=(k:Int)+2) E8 E8,e2,qaa,qfh e3,qaa,qas (by rw [hb];simp only [Ai];omega),qaa,e1]
      exact qsc hl n (m-1) (k+(2+r)) _ E8 E8 E8 hnext
  ·rw [qad (qab E8),qkb];have he:qb0 (log.data.toList.drop k)=([],0):=qla (by rw [Ay,hdl];omega);rw [qwu h he]
theorem q5h {fu:Nat} {log:ByteArray} (hl:log.size≤65536) (hf:log.size<fu):qyc fu log=some ((qb0 log.data.toList).1,((qb0 log.data.toList).2:Int)) :=
 qsc hl fu log.size 0 [] E8 hf E8 (q2i log)
theorem qpd:∀ (n:Nat) (l:List UInt8),l.length≤n→(qb0 l).2≤l.length∧(qb0 l).1.length≤l.length∧∀ x∈(qb0 l).1,x.size≤400
 | n,[],_=>by rw [qla (by simp)];simp
 | n,[x],_=>by rw [qla (by simp)];simp
 | 0,a::b::r,h=>by simp at h
 | n+1,a::b::r,h=>by
  by_cases hk:1≤qjo a b∧qjo a b≤400∧qjo a b≤r.length
  ·have ih:=qpd n (r.drop (qjo a b)) (by simp at h ⊢;omega);rw [Ay] at ih;rw [qyd hk];refine ⟨by simp only [X9];omega,by simp only [X9];omega,fun x hx=>?_⟩;rcases X3.1 hx with rfl | hx
   ·show (List.take _ r).toArray.size≤400;simp;omega
   ·exact ih.2.2 x hx
  ·rw [qrj hk];simp
def qch (c10:Bool):Option Bool := some c10
def qkg (fu:Nat) (a:GEntry) (b:GEntry):Option Bool:=(bif a.state==b.state then (qkx fu a.ops b.ops).bind fun c=>(bif c then (some (qkr a.first b.first)).bind fun d=>(bif d then (some (qkr a.deps b.deps)).bind fun e=>(bif e then (some (qkr a.at_ b.at_)).bind fun f=>(bif f then (some (qkr a.values b.values)).bind fun g=>qch g else qch false) else qch false) else qch false) else qch false) else qch false)
theorem q0d {c:Gl} {d:Gl} {g:GEntry} {h:GEntry} {r:Bool} (hA:Agree M w) (e:rep M c g) (f:rep M d h) (b:qkg fu g h=some r) :
    Calls Tryz.prog 39 #[Gf c,Gf d] w (qax w (.bool r)):=by
 refine Zm Tryz.func39 45 fun T k=>?_;have af:T 0=Gf c:=k 0;have ag:T 1=Gf d:=k 1;have a:Gi w M [] w:=Zt hA;rw [qkg] at b;refine Qz ?_;refine Ql<|Yr (v:= Gf c) (cs:=c) af rfl a fun b4 w3 bj a=>Ql (Yr (v:= Gf d) (cs:=d) ag rfl a ?_);intro b6 _ _ a;refine Qa (Qf (.bool false) rfl)<|Qj ?_;refine Qp (fun T' w'=>∃ i j,Gh w M i∧Gi w i [Gk b6 d 33,Gk b4 c 33] w'∧T' 4= .bool j∧qch j=some r) ?_ ?_;refine Q1<|Qa (Qi Y0 rfl)<|Qa (Qh (Ge g.state) Z4 rfl (a.bvB 1 rfl) (Z7 (rr e)))<|Qa (Qi Y0 rfl)<|Qa (Qh (Ge h.state) Z4 rfl (a.bvB 0 rfl) (Z7 (rr f)))<|Qa (Z5 rfl rfl)<|Qa (Qd (.bool (g.state==h.state)) rfl) ?_;rcases ic b with ⟨l,b⟩ | ⟨l,b⟩<;>rw [l];refine Qg rfl rfl (Qi K2 rfl) ?_;obtain ⟨m,al,am⟩:=(Vi (rr e));refine Qg rfl rfl (Qh m Y9 rfl (a.bvB 1 rfl) al)<|Qg rfl rfl (Qi K2 rfl) ?_;obtain ⟨n,an,ao⟩:=(Vi (rr f));refine Qg rfl rfl (Qh n Y9 rfl (a.bvB 0 rfl) an) ?_;obtain ⟨ap,aq,b⟩:=Qc b;refine Vo rfl rfl<|Zi (vs:=[m,n]) (v:= .bool ap) cb40 (Ya rfl rfl) a (qwo a.agree am ao aq) fun bm a=>Qv 2 rfl ?_;rcases ic b with ⟨o,b⟩ | ⟨o,b⟩<;>rw [o];refine Qg rfl rfl (Qi J1 rfl) ?_;obtain ⟨p,ar,au⟩:=(V2 (rr e));refine Qg rfl rfl (Qh p Z2 rfl (a.bvB 1 rfl) ar)<|Qg rfl rfl (Qi J1 rfl) ?_;obtain ⟨q,av,aw⟩:=(V2 (rr f));refine Qg rfl rfl (Qh q Z2 rfl (a.bvB 0 rfl) av) ?_;obtain ⟨ax,ay,b⟩:=Q0 b;refine Vo rfl rfl<|Zi (vs:=[p,q]) (v:= .bool ax) zcq (Ya rfl rfl) a (ay ▸ (K4 a.agree au aw)) fun bn a=>Qv 2 rfl ?_;rcases ic b with ⟨s,b⟩ | ⟨s,b⟩<;>rw [s];refine Qg rfl rfl (Qi Jm rfl) ?_;obtain ⟨t,az,a0⟩:=(Vs (rr e));refine Qg rfl rfl (Qh t Z2 rfl (a.bvB 1 rfl) az)<|Qg rfl rfl (Qi Jm rfl) ?_;obtain ⟨u,a1,a2⟩:=(Vs (rr f));refine Qg rfl rfl (Qh u Z2 rfl (a.bvB 0 rfl) a1) ?_;obtain ⟨a3,a4,b⟩:=Q0 b;refine Vo rfl rfl<|Zi (vs:=[t,u]) (v:= .bool a3) zcq (Ya rfl rfl) a (a4 ▸ (K4 a.agree a0 a2)) fun bo a=>Qv 2 rfl ?_;rcases ic b with ⟨x,b⟩ | ⟨x,b⟩<;>rw [x];refine Qg rfl rfl (Qi Vj rfl) ?_;obtain ⟨y,a5,a6⟩:=(Yg (rr e));refine Qg rfl rfl (Qh y Z2 rfl (a.bvB 1 rfl) a5)<|Qg rfl rfl (Qi Vj rfl) ?_;obtain ⟨z,a7,a8⟩:=(Yg (rr f));refine Qg rfl rfl (Qh z Z2 rfl (a.bvB 0 rfl) a7) ?_;obtain ⟨a9,ba,b⟩:=Q0 b;refine Vo rfl rfl<|Zi (vs:=[y,z]) (v:= .bool a9) zcq (Ya rfl rfl) a (ba ▸ (K4 a.agree a6 a8)) fun bp a=>Qv 2 rfl ?_;rcases ic b with ⟨aa,b⟩ | ⟨aa,b⟩<;>rw [aa];refine Qg rfl rfl (Qi V7 rfl) ?_;obtain ⟨ab,bb,bc⟩:=(Y2 (rr e));refine Qg rfl rfl (Qh ab Z2 rfl (a.bvB 1 rfl) bb)<|Qg rfl rfl (Qi V7 rfl) ?_;obtain ⟨ac,bd,be⟩:=(Y2 (rr f));refine Qg rfl rfl (Qh ac Z2 rfl (a.bvB 0 rfl) bd) ?_;obtain ⟨ad,bg,b⟩:=Q0 b;refine Vo rfl rfl<|Zi (vs:=[ab,ac]) (v:= .bool ad) zcq (Ya rfl rfl) a (bg ▸ (K4 a.agree bc be)) fun bq a=>Qv 2 rfl<|Qj ?_;exact ⟨M,ad,(Qb _ _ _),a,rfl,b⟩;refine Qv 7 rfl<|Qj ?_;exact ⟨M,false,(Qb _ _ _),a,rfl,b⟩;refine Qv 14 rfl<|Qj ?_;exact ⟨M,false,(Qb _ _ _),a,rfl,b⟩;refine Qv 21 rfl<|Qj ?_;exact ⟨M,false,(Qb _ _ _),a,rfl,b⟩;refine Qv 28 rfl<|Qj ?_;exact ⟨M,false,(Qb _ _ _),a,rfl,b⟩;refine Qv 35 rfl<|Qj ?_;exact ⟨M,false,(Qb _ _ _),a,rfl,b⟩;rintro _ _ ⟨i,j,_,a,bh,b⟩;rw [qch] at b;cases b;exact Q2 (Yn rfl bh ⟨rfl,a.kept⟩)
def qc7:Nat→GNode→Int→Option GNode
 | 0,_,_=>none
 | n+1,b,a=>(bif decide (a<32) then (inR a 32).bind fun _=>(qan b.entries a).bind fun g=>(qan b.entries a).bind fun h=>(qan b.entries a).bind fun i=>(app ([]:List GOp) g.ops).bind fun j=>(app ([]:List Int) h.first).bind fun k=>(app ([]:List Int) i.deps).bind fun l=>(qan b.entries a).bind fun m=>(qc1 b.entries a ({ m with ops:=j })).bind fun o=>(some ({ b with entries:=o }:GNode)).bind fun d=>(qan d.entries a).bind fun p=>(qc1 d.entries a ({ p with first:=k })).bind fun q=>(some ({ d with entries:=q }:GNode)).bind fun e=>(qan e.entries a).bind fun r=>(qc1 e.entries a ({ r with deps:=l })).bind fun s=>(some ({ e with entries:=s }:GNode)).bind fun c=>(qan c.entries a).bind fun t=>(qan c.entries a).bind fun u=>(app ([]:List Int) t.at_).bind fun v=>(app ([]:List Int) u.values).bind fun w=>(qan c.entries a).bind fun x=>(qc1 c.entries a ({ x with at_:=v })).bind fun y=>(some ({ c with entries:=y }:GNode)).bind fun f=>(qan f.entries a).bind fun z=>(qc1 f.entries a ({ z with values:=w })).bind fun aa=>(some ({ f with entries:=aa }:GNode)).bind fun ab=>(qc7 n) ab (IntKind.wrap .i64 (a+1)) else (some b).bind fun ac=>some ac)
def qmp (fu:Nat) (a:GNode):Option GNode:=(app ([]:List Int) a.order).bind fun b=>(some ({ a with order:=b }:GNode)).bind fun c=>qc7 fu c 0
theorem q2n {y:Gl} {x1:GNode} {r:GNode} (hA:Agree M w) (m:rep M y x1) (a:qmp fu x1=some r) :
    Calls Tryz.prog 77 #[Gf y] w (qdq M w [] (fun M' u L'=>∃ c0 uR,u=Gf c0∧L'=[.row uR 3 1]∧rep M' c0 r∧sl c0 192 1=[uR])):=by
 refine Zm Tryz.func77 57 fun T hT=>?_;have bk:T 0=Gf y:=hT 0;have b:St w (qai []) M [] w:=Zt hA;rw [qmp] at a;refine Qz ?_;refine Ql<|Yr (v:= Gf y) (cs:=y) bk rfl b fun d w2 ds b=>Ql (Zn Xm b ?_);intro b5 _ _ b;have n:rep M (Zr.zc GNode) (Zr.zd:GNode):=Zr.zr;refine Qj<|Qz<|Qa (Qi J9 rfl) ?_;obtain ⟨v6,bm,bn⟩:=(K5 (rr m));refine Qa (Qh v6 Z2 rfl (b.bvB 1 rfl) bm) ?_;replace b:=b.nilRow 3 1;obtain ⟨_,bo,bp,a⟩:=Z1 a;refine Ql (Yq (α := Int) (j:=0) Kv b rfl rfl rfl (Zo _) bn bo ?_);intro o M9 _ al af b;rw [← bp] at af;replace m:=Zg al m;replace n:=Zg al n;refine Qa (Qi J9 rfl) ?_;obtain ⟨bq,br,a⟩:=Qc a;refine Ql (Z9 2 1 b rfl m rfl rfl (Qt af) (Q8 af) rfl (GNode.u1 (rr m) (Lf (K5 (rr m)) (Qt af))) br ?_);intro bs _ bu _ bv b;have bw:=bv;refine Qj<|Qu<|Qz<|Qa (Qd (Ge 0) rfl)<|Qj<|Qs ?_;refine Zy (fun am T' w'=>∃ z p an c,Mm.ext w.heap.size (qai []) M9 z∧St w (qai []) z [.row o 3 1,Gk b5 (Zr.zc GNode) 37,Gk d p 37] w'∧rep z p an∧sl p (0+192) 1=[o]∧T' 1=Gg d∧T' 2=Gg b5∧T' 9=Ge c∧qc7 am an c=some r) fu ?_ ?_ ?_;exact ⟨M9,bs,bq,(0:Int),(Qb _ _ _),b,bu,bw,rfl,rfl,rfl,a⟩;rintro T' w' ⟨_,_,_,_,_,_,_,_,_,_,_,a⟩;rw [qc7] at a;cases a;intro am;rintro _ _ ⟨z,p,an,c,ao,b,g,a8,ap,aq,ar,a⟩;replace n:=Zg ao n;rw [qc7] at a;obtain ⟨_,a9⟩:∃ f,f=qc7 am:=⟨_,rfl⟩;rw [← a9] at a;refine Qz<|Qa (Zw ar rfl)<|Qj<|Qu ?_;refine Q4 a rfl (fun bx a=>?_) fun bx a=>?_;refine Qk<|Qe<|Qu<|Qs<|Qz<|Zj ar<|Qa (Qf (Ge c) rfl)<|Qj<|Qz<|Qa (Qd (Ge c) rfl)<|Qa (Qi V1 ap) ?_;obtain ⟨bz,b0,a⟩:=Qn a;refine Qa (Ze Un rfl rfl bz b0)<|Qa (Qf (.pointer (some ⟨d,0+0+Int.toNat c*6,none⟩)) rfl)<|Qj<|Qu<|Ys [Gk d p 37] [20,23,26] Z6 b fun d2 b au e=>Qw 0 rfl (Qd (.pointer (some ⟨d,0+0+Int.toNat c*6,none⟩)) rfl) e<|Qw 1 rfl (Qd (.pointer (some ⟨d,0+0+Int.toNat c*6,none⟩)) rfl) e<|Qw 2 rfl (Qd (.pointer (some ⟨d,0+0+Int.toNat c*6,none⟩)) rfl) e<|Qw 3 rfl (Qd (.pointer (some ⟨d,0+0+Int.toNat c*6,none⟩)) rfl) e<|Qw 4 rfl (Q9 rfl) e<|Qw 5 rfl (Qi K2 rfl) e ?_;obtain ⟨_,b1,a⟩:=Qc a;obtain ⟨b2,b4,b6⟩:=(Vi (vp (k:=6) rfl rfl (Q6 (rr g)) b1));refine Y4 6 rfl (Qh b2 Y9 rfl (Ym 0 rfl) b4) e<|Qw 8 rfl (Qd (.pointer (some ⟨d,0+0+Int.toNat c*6,none⟩)) rfl) e<|Qw 9 rfl (Q9 rfl) e<|Qw 10 rfl (Qi J1 rfl) e ?_;obtain ⟨_,b7,a⟩:=Qc a;obtain ⟨b8,b9,av⟩:=(V2 (vp (k:=6) rfl rfl (Q6 (rr g)) b7));refine Y4 11 rfl (Qh b8 Z2 rfl (Ym 0 rfl) b9) e<|Qw 13 rfl (Qd (.pointer (some ⟨d,0+0+Int.toNat c*6,none⟩)) rfl) e<|Qw 14 rfl (Q9 rfl) e<|Qw 15 rfl (Qi Jm rfl) e ?_;obtain ⟨_,ca,a⟩:=Qc a;obtain ⟨cb,cc,aw⟩:=(Vs (vp (k:=6) rfl rfl (Q6 (rr g)) ca));refine Y4 16 rfl (Qh cb Z2 rfl (Ym 0 rfl) cc) e ?_;replace b:=b.nilRow 99 3;obtain ⟨_,cd,ce,a⟩:=Z1 a;refine w1 7 rfl (Yq (α := GOp) (j:=0) zaj b rfl rfl rfl (Zo _) b6 cd ?_);intro _ _ _ l q b;rw [← ce] at q;replace av:=Qo l.1 av;refine Yj b (au.trans l) fun ea=>?_;replace b:=b.nilRow 3 1;obtain ⟨_,cf,cg,a⟩:=Z1 a;refine w1 12 rfl (Yq (α := Int) (j:=0) Kv b rfl rfl rfl (Zo _) av cf ?_);intro _ _ _ s t b;rw [← cg] at t;replace aw:=Qo (l.1.trans s.1) aw;refine Yj b (au.trans (l.trans s)) fun ef=>?_;replace b:=b.nilRow 3 1;obtain ⟨_,ch,ci,a⟩:=Z1 a;refine w1 17 rfl (Yq (α := Int) (j:=0) Kv b rfl rfl rfl (Zo _) aw ch ?_);intro _ _ _ aa ah b;rw [← ci] at ah;replace g:=Bo (l.1.trans (s.1.trans aa.1)) g;replace q:=Qo (s.1.trans aa.1) q;replace t:=Qo aa.1 t;refine Yj b (au.trans (l.trans (s.trans aa))) fun ba=>Qw 18 rfl (Q9 rfl) ba<|Qw 19 rfl (Qi K2 rfl) ba ?_;obtain ⟨_,ax,a⟩:=Qc a;obtain ⟨_,cj,a⟩:=Qc a;obtain ⟨_,ck,a⟩:=Qc a;have en:=(Zs ax);refine w1 20 rfl (Z9 5 1 b rfl g rfl rfl (Qt q) (Q8 q) rfl (Vb (rr g) (vu (k:=6) rfl rfl (Q6 (rr g)) (GEntry.u1 (vp (k:=6) rfl rfl (Q6 (rr g)) ax) (Lf (Vi (vp (k:=6) rfl rfl (Q6 (rr g)) ax)) (Qt q))) cj)) ck ?_);intro _ _ ab cl _ b;have cm:=(cl E8).trans a8;refine ⟨nB,?_⟩;refine wy 21 rfl (Q9 rfl) nB<|wy 22 rfl (Qi J1 rfl) nB ?_;obtain ⟨_,ay,a⟩:=Qc a;obtain ⟨_,cn,a⟩:=Qc a;obtain ⟨_,co,a⟩:=Qc a;have ev:=(Zs ay);refine w1 23 rfl (Z9 5 1 b rfl ab rfl rfl (Qt t) (Q8 t) rfl (Vb (rr ab) (vu (k:=6) rfl rfl (Q6 (rr ab)) (GEntry.u2 (vp (k:=6) rfl rfl (Q6 (rr ab)) ay) (Lf (V2 (vp (k:=6) rfl rfl (Q6 (rr ab)) ay)) (Qt t))) cn)) co ?_);intro _ _ ac cp _ b;have cq:=(cp E8).trans cm;refine ⟨nB,?_⟩;refine wy 24 rfl (Q9 rfl) nB<|wy 25 rfl (Qi Jm rfl) nB ?_;obtain ⟨_,az,a⟩:=Qc a;obtain ⟨_,cr,a⟩:=Qc a;obtain ⟨_,ct,a⟩:=Qc a;have e2:=(Zs az);refine w1 26 rfl (Z9 5 1 b rfl ac rfl rfl (Qt ah) (Q8 ah) rfl (Vb (rr ac) (vu (k:=6) rfl rfl (Q6 (rr ac)) (GEntry.u3 (vp (k:=6) rfl rfl (Q6 (rr ac)) az) (Lf (Vs (vp (k:=6) rfl rfl (Q6 (rr ac)) az)) (Qt ah))) cr)) ct ?_);intro cu _ i cv _ b;have cw:=(cv E8).trans cq;refine ⟨nB,?_⟩;refine wd<|Qe<|Ys [Gk d cu 37] [14,17] Z6 b fun e5 b bb h=>Qw 0 rfl (Qd (.pointer (some ⟨d,0+0+Int.toNat c*6,none⟩)) rfl) h<|Qw 1 rfl (Qd (.pointer (some ⟨d,0+0+Int.toNat c*6,none⟩)) rfl) h<|Qw 2 rfl (Qd (.pointer (some ⟨d,0+0+Int.toNat c*6,none⟩)) rfl) h<|Qw 3 rfl (Q9 rfl) h<|Qw 4 rfl (Qi Vj rfl) h ?_;obtain ⟨_,cx,a⟩:=Qc a;obtain ⟨cy,c1,c2⟩:=(Yg (vp (k:=6) rfl rfl (Q6 (rr i)) cx));refine Y4 5 rfl (Qh cy Z2 rfl (Ym 0 rfl) c1) h<|Qw 7 rfl (Qd (.pointer (some ⟨d,0+0+Int.toNat c*6,none⟩)) rfl) h<|Qw 8 rfl (Q9 rfl) h<|Qw 9 rfl (Qi V7 rfl) h ?_;obtain ⟨_,c3,a⟩:=Qc a;obtain ⟨c4,c5,a0⟩:=(Y2 (vp (k:=6) rfl rfl (Q6 (rr i)) c3));refine Y4 10 rfl (Qh c4 Z2 rfl (Ym 0 rfl) c5) h ?_;replace b:=b.nilRow 3 1;obtain ⟨_,c6,c7,a⟩:=Z1 a;refine w1 6 rfl (Yq (α := Int) (j:=0) Kv b rfl rfl rfl (Zo _) c2 c6 ?_);intro _ _ _ ad x b;rw [← c7] at x;replace a0:=Qo ad.1 a0;refine Yj b (bb.trans ad) fun fc=>?_;replace b:=b.nilRow 3 1;obtain ⟨_,c8,c9,a⟩:=Z1 a;refine w1 11 rfl (Yq (α := Int) (j:=0) Kv b rfl rfl rfl (Zo _) a0 c8 ?_);intro _ da _ ai aj b;rw [← c9] at aj;replace i:=Zg (ad.trans ai) i;replace x:=Qo ai.1 x;refine Yj b (bb.trans (ad.trans ai)) fun bc=>Qw 12 rfl (Q9 rfl) bc<|Qw 13 rfl (Qi Vj rfl) bc ?_;obtain ⟨_,a1,a⟩:=Qc a;obtain ⟨_,db,a⟩:=Qc a;obtain ⟨_,dc,a⟩:=Qc a;have fj:=(Zs a1);refine w1 14 rfl (Z9 7 1 b rfl i rfl rfl (Qt x) (Q8 x) rfl (Vb (rr i) (vu (k:=6) rfl rfl (Q6 (rr i)) (Jb (vp (k:=6) rfl rfl (Q6 (rr i)) a1) (Lf (Yg (vp (k:=6) rfl rfl (Q6 (rr i)) a1)) (Qt x))) db)) dc ?_);intro _ _ ae dd _ b;have de:=(dd E8).trans cw;refine ⟨nB,?_⟩;refine wy 15 rfl (Q9 rfl) nB<|wy 16 rfl (Qi V7 rfl) nB ?_;obtain ⟨_,a2,a⟩:=Qc a;obtain ⟨_,df,a⟩:=Qc a;obtain ⟨dg,dh,a⟩:=Qc a;have fp:=(Zs a2);refine w1 17 rfl (Z9 7 1 b rfl ae rfl rfl (Qt aj) (Q8 aj) rfl (Vb (rr ae) (vu (k:=6) rfl rfl (Q6 (rr ae)) (Jc (vp (k:=6) rfl rfl (Q6 (rr ae)) a2) (Lf (Y2 (vp (k:=6) rfl rfl (Q6 (rr ae)) a2)) (Qt aj))) df)) dh ?_);intro di _ dj dk _ b;have dl:=(dk E8).trans de;refine ⟨nB,?_⟩;refine wd<|Q7<|Qe<|Q1<|Qa (Zu ar rfl)<|Qa (Qd (Ge (IntKind.wrap .i64 (c+1))) rfl)<|Qj ?_;exact ⟨da,di,dg,(IntKind.wrap .i64 (c+1)),(ao.trans (l.trans (s.trans (aa.trans (ad.trans ai))))),(St.drop (St.drop (St.drop (St.drop (St.drop b))))),dj,dl,ap,aq,rfl,(by rw [← a9];exact a)⟩;refine Zp<|Qq<|Qq<|Zq<|Qe<|Qz ?_;have a3:=(rr g);have dm:sl (sl p (0) 201) 192 1=[o]:=(Vq E9).trans a8;refine Qa (Zb Vk ap (b.bvB 2 rfl) (Xx a3)) ?_;obtain ⟨_,dn,a⟩:=Qc a;refine Ql (Z9 1 201 b rfl n aq rfl a3 rfl rfl (Lf (rr n) a3) dn ?_);intro bd _ be _ dp b;have dq:sl bd (0+192) 1=[o]:=V3 dp dm E9;refine Qj ?_;cases a;exact Q2 (J5 (j:=1) rfl aq (Vz Vk be) b rfl ⟨_,z,_,rfl,(al.trans ao),(b.sel (H':=[.row o 3 1]) [0] E9 rfl),bd,o,rfl,rfl,be,dq⟩)
def qg9 (y8:Int) (rec9:Int→Option Bool):Option Bool := rec9 (IntKind.wrap .i64 (y8+1))
def qmq (y32:Int) (rec33:Int→Int→Option Bool) (y41:Int):Option Bool := rec33 y41 (IntKind.wrap .i64 (y32+1))
def qqf (y73:Int) (rec74:Int→Int→Option Bool) (y82:Int):Option Bool := rec74 y82 (IntKind.wrap .i64 (y73+1))
def qqg (y73:Int) (rec74:Int→Int→Option Bool) (x86:Int):Option Bool := qqf y73 rec74 x86
def qmr (y73:Int) (rec74:Int→Int→Option Bool) (x86:Int) (c95:Bool):Option Bool:=(bif c95 then some false else qqg y73 rec74 x86)
def qd1 (d:Int) (e:Int→Option Bool) (a:GEntry):Nat→Int→Int→Option Bool
 | 0,_,_=>none
 | n+1,f,b=>(bif decide (b<(a.at_.length:Int)) then (idx a.at_ b).bind fun c=>(bif decide (c≤f) then qmr b (qd1 d e a n) c true else qmr b (qd1 d e a n) c (decide (c≥(a.ops.length:Int)))) else qg9 d e)
def qqh (fu:Nat) (y8:Int) (rec9:Int→Option Bool) (d25:GEntry):Option Bool := qd1 y8 rec9 d25 fu (-1) 0
def qha (fu:Nat) (y8:Int) (rec9:Int→Option Bool) (d25:GEntry) (c106:Bool):Option Bool:=(bif c106 then some false else qqh fu y8 rec9 d25)
def qqi (fu:Nat) (y8:Int) (rec9:Int→Option Bool) (d25:GEntry):Option Bool:=(bif d25.state==1 then (bif decide ((d25.deps.length:Int)>0) then qha fu y8 rec9 d25 true else (bif decide (d25.state<3) then qha fu y8 rec9 d25 (decide ((d25.at_.length:Int)>0)) else qha fu y8 rec9 d25 false)) else (bif decide (d25.state<3) then qha fu y8 rec9 d25 (decide ((d25.at_.length:Int)>0)) else qha fu y8 rec9 d25 false))
def qd9 (fu:Nat) (y8:Int) (rec9:Int→Option Bool) (d25:GEntry) (c124:Bool):Option Bool:=(bif c124 then some false else qqi fu y8 rec9 d25)
def qqj (fu:Nat) (b:Int) (c:Int→Option Bool) (a:GEntry):Option Bool:=(bif a.state==0 then (some ({ state:=Zr.zd,ops:=Zr.zd,first:=Zr.zd,deps:=Zr.zd,at_:=Zr.zd,values:=Zr.zd }:GEntry)).bind fun d=>(qkg fu a d).bind fun e=>(bif !e then some false else qg9 b c) else (some (qaj a.ops)).bind fun f=>(bif !f then qd9 fu b c a true else (some (qam a.first)).bind fun g=>(bif !g then qd9 fu b c a true else (some (qam a.deps)).bind fun h=>(bif !h then qd9 fu b c a true else (some (qco a.first b)).bind fun i=>(bif i then qd9 fu b c a true else (some (qco a.deps b)).bind fun j=>(bif j then qd9 fu b c a true else qd9 fu b c a ((a.at_.length:Int) != (a.values.length:Int))))))))
def qau (fu:Nat) (y8:Int) (rec9:Int→Option Bool) (d25:GEntry) (c161:Bool):Option Bool:=(bif c161 then some false else qqj fu y8 rec9 d25)
def qd2 (fu:Nat) (e:GNode) (b:Int) (c:Int→Option Bool) (a:GEntry):Nat→Int→Int→Option Bool
 | 0,_,_=>none
 | n+1,d,f=>(bif decide (f<(e.order.length:Int)) then (idx e.order f).bind fun g=>(bif g==b then qmq f (qd2 fu e b c a n) (IntKind.wrap .i64 (d+1)) else qmq f (qd2 fu e b c a n) d) else (bif decide (a.state<0) then qau fu b c a true else (bif decide (a.state>3) then qau fu b c a true else (bif a.state==3 then (bif d != 1 then qau fu b c a true else (bif a.state != 3 then qau fu b c a (d != 0) else qau fu b c a false)) else (bif a.state != 3 then qau fu b c a (d != 0) else qau fu b c a false)))))
def qem (a:GNode):Nat→Int→Option Bool
 | 0,_=>none
 | n+1,b=>(bif decide (b<(a.order.length:Int)) then (idx a.order b).bind fun c=>(some (decide (0≤c∧c<32))).bind fun d=>(bif !d then some false else (qem a n) (IntKind.wrap .i64 (b+1))) else some true)
def qcz (fu:Nat) (a:GNode):Nat→Int→Option Bool
 | 0,_=>none
 | n+1,b=>(bif decide (b<32) then (qan a.entries b).bind fun c=>(some c).bind fun d=>qd2 fu a b (qcz fu a n) d fu 0 0 else qem a fu 0)
def qui (fu:Nat) (x1:GNode):Option Bool := qcz fu x1 fu 0
theorem q71 {g:Gl} {s:GNode} {r:Bool} (hA:Agree M w) (am:rep M g s) (a:qui fu s=some r) :
    Calls Tryz.prog 76 #[Gf g] w (qax w (.bool r)):=by
 refine Zm Tryz.func76 153 fun T hT=>?_;have df:T 0=Gf g:=hT 0;have b:Gi w M [] w:=Zt hA;rw [qui] at a;refine Qz ?_;refine Ql<|Yr (v:= Gf g) (cs:=g) df rfl b fun j w2 hy b=>Qa (Qf (.bool false) rfl)<|Qj<|Qu<|Qz<|Qa (Qi V1 rfl) ?_;have ax:=(Q6 (rr am));refine Qa (Zb zfj rfl (b.bvB 0 rfl) (Xx ax))<|Qa (Qd (Ge 0) rfl)<|Qj<|Qs ?_;refine Zy (fun bj c h=>∃ M6 e,Gh w M M6∧Gi w M6 [Gk j g 37] h∧c 1=Gg j∧c 14=Gf (sl g (0+0) 192)∧c 15=Ge e∧qcz fu s bj e=some r) fu ?_ ?_ ?_;exact ⟨M,(0:Int),(Qb _ _ _),b,rfl,rfl,rfl,a⟩;rintro c h ⟨_,_,_,_,_,_,_,a⟩;rw [qcz] at a;cases a;intro bj;rintro _ _ ⟨M6,e,bk,b,bl,b9,ay,a⟩;replace am:=Zg bk am;replace ax:=Zg bk ax;rw [qcz] at a;obtain ⟨t,ca⟩:∃ f,f=qcz fu s bj:=⟨_,rfl⟩;rw [← ca] at a;refine Qz<|Qa (Zw ay rfl)<|Qj<|Qu ?_;refine Q4 a rfl (fun dg a=>?_) fun dg a=>?_;refine Qk<|Qe ?_;refine Qp (fun c h=>∃ az,Gh w M6 az∧Gi w az [Gk j g 37] h∧c 1=Gg j∧c 14=Gf (sl g (0+0) 192)∧c 15=Ge e∧qg9 e t=some r) ?_ ?_;refine Qs<|Qz<|Zj ay ?_;obtain ⟨dh,al,a⟩:=Qc a;obtain ⟨di,dj,al⟩:=Xb ax al;replace al:rep _ (sl (sl g (0+0) 192) (Int.toNat e*6) 6) dh:=al;refine Qa (q3l zfk b9 ay di dj) ?_;refine Ql (Zn q9i b ?_);intro k _ cb b;have cc:rep M6 (Zr.zc GEntry) (Zr.zd:GEntry):=Zr.zr;refine Qa (Qf (Ge e) rfl) ?_;obtain ⟨d,dk,a⟩:=Qc a;refine Ql (Z8 0 6 b cc al (Lf (rr cc) al) dk ?_);intro p _ i _ _ b;refine Qj<|Qz<|Qa (Qf (Ge 0) rfl)<|Qj<|Qu<|Qz<|Qa (Qi J9 bl) ?_;obtain ⟨bm,dl,a0⟩:=(K5 (rr am));refine Qa (Qh bm Z2 rfl (b.bvB 1 rfl) dl) ?_;obtain ⟨_,_,dm,_⟩:=Qy a0;refine Qa (Zh Qm (Vr dm rfl))<|Qa (Qd (Ge 0) rfl)<|Qj<|Qs ?_;refine Zy (fun bn c h=>∃ l u ah,Gh w M6 l∧Gi w l [Gk k p 33,Gk j g 37] h∧c 1=Gg j∧c 3=Ge e∧c 4=Gg k∧c 5=Ge u∧c 14=Gf (sl g (0+0) 192)∧c 15=Ge e∧c 20=bm∧c 21=Ge (s.order.length:Int)∧c 22=Ge ah∧qd2 fu s e t d bn u ah=some r) fu ?_ ?_ ?_;exact ⟨M6,(0:Int),(0:Int),(Qb _ _ _),b,bl,rfl,rfl,rfl,b9,ay,rfl,rfl,rfl,a⟩;rintro c h ⟨_,_,_,_,_,_,_,_,_,_,_,_,_,_,a⟩;rw [qd2] at a;cases a;intro bn;rintro _ _ ⟨l,u,ah,an,b,ad,aa,n,ao,ae,af,bo,bp,a1,a⟩;replace i:=Zg an i;replace a0:=Qo an.1 a0;rw [qd2] at a;obtain ⟨dn,cd⟩:∃ f,f=qd2 fu s e t d bn:=⟨_,rfl⟩;rw [← cd] at a;refine Qz<|Qa (Zw a1 bp)<|Qj<|Qu ?_;refine Q4 a rfl (fun dp a=>?_) fun dp a=>?_;refine Qk<|Qe ?_;refine Qp (fun c h=>∃ a2 a3,Gh w l a2∧Gi w a2 [Gk k p 33,Gk j g 37] h∧c 1=Gg j∧c 3=Ge e∧c 4=Gg k∧c 5=Ge a3∧c 14=Gf (sl g (0+0) 192)∧c 15=Ge e∧c 20=bm∧c 21=Ge (s.order.length:Int)∧c 22=Ge ah∧qmq ah dn a3=some r) ?_ ?_;refine Qs<|Qz ?_;obtain ⟨bq,_,_,_,_,dq,dr,ds,dt,du,a⟩:=Yc 1 a0 a;refine Qa (Yp Ks bo dq a1 dr ds)<|Qa (Qh (Ge bq) Z4 rfl (b.bvM dt) du)<|Qa (Qf (Ge bq) rfl)<|Qj<|Qz<|Qa (Qd (Ge bq) rfl)<|Zj aa<|Qa (Z5 rfl rfl)<|Qj ?_;refine Q4 a rfl (fun dv a=>?_) fun dv a=>?_;refine Q1<|Zj ao<|Qa (Zu rfl rfl)<|Qa (Qf (Ge (IntKind.wrap .i64 (u+1))) rfl)<|Yk<|Q7<|Qe ?_;exact ⟨l,(IntKind.wrap .i64 (u+1)),(Qb _ _ _),b,ad,aa,n,rfl,ae,af,bo,bp,a1,a⟩;refine Qk<|Q7<|Qe ?_;exact ⟨l,u,(Qb _ _ _),b,ad,aa,n,ao,ae,af,bo,bp,a1,a⟩;rintro _ _ ⟨a2,a3,dw,b,dx,dy,dz,d0,d1,d2,d3,d4,d5,a⟩;rw [qmq] at a;refine Q1<|Qa (Zu d5 rfl)<|Qa (Qd (Ge (IntKind.wrap .i64 (ah+1))) rfl)<|Qj ?_;exact ⟨a2,a3,(IntKind.wrap .i64 (ah+1)),(an.trans dw),b,dx,dy,dz,d0,d1,d2,d3,d4,rfl,(by rw [← cd];exact a)⟩;refine Zp<|Qq<|Qq<|Zq<|Qe ?_;refine Qp (fun c h=>∃ o,Gh w l o∧Gi w o [Gk k p 33,Gk j g 37] h∧c 1=Gg j∧c 3=Ge e∧c 4=Gg k∧c 14=Gf (sl g (0+0) 192)∧c 15=Ge e∧qqj fu e t d=some r) ?_ ?_;refine Qp (fun c h=>∃ a4 br,Gh w l a4∧Gi w a4 [Gk k p 33,Gk j g 37] h∧c 1=Gg j∧c 3=Ge e∧c 4=Gg k∧c 14=Gf (sl g (0+0) 192)∧c 15=Ge e∧c 57= .bool br∧qau fu e t d br=some r) ?_ ?_;refine Q1<|Qa (Qi Y0 n)<|Qa (Qh (Ge d.state) Z4 rfl (b.bvB 0 rfl) (Z7 (rr i)))<|Qa (Zw rfl rfl)<|Qa (Qd (.bool (decide (d.state<0))) rfl) ?_;rcases ic a with ⟨ce,a⟩ | ⟨ce,a⟩<;>rw [ce];refine Qv 22 rfl<|Qj ?_;exact ⟨l,true,(Qb _ _ _),b,ad,aa,n,ae,af,rfl,a⟩;refine Qg rfl rfl (Qi Y0 n)<|Qg rfl rfl (Qh (Ge d.state) Z4 rfl (b.bvB 0 rfl) (Z7 (rr i)))<|Qg rfl rfl (Yx rfl rfl)<|Qv 2 rfl ?_;rcases ic a with ⟨cf,a⟩ | ⟨cf,a⟩<;>rw [cf];refine Qv 17 rfl<|Qj ?_;exact ⟨l,true,(Qb _ _ _),b,ad,aa,n,ae,af,rfl,a⟩;refine Qg rfl rfl (Qi Y0 n)<|Qg rfl rfl (Qh (Ge d.state) Z4 rfl (b.bvB 0 rfl) (Z7 (rr i)))<|Qg rfl rfl (Z5 rfl rfl)<|Qg rfl rfl (Qd (.bool (d.state==3)) rfl) ?_;rcases ic a with ⟨cg,a⟩ | ⟨cg,a⟩<;>rw [cg];refine Qg rfl rfl (Qd _ ao)<|Qg rfl rfl (Yi rfl rfl)<|Qg rfl rfl (Zk (.bool (u != 1)) rfl rfl)<|Qv 2 rfl ?_;rcases ic a with ⟨ch,a⟩ | ⟨ch,a⟩<;>rw [ch];refine Qv 8 rfl<|Qj ?_;exact ⟨l,true,(Qb _ _ _),b,ad,aa,n,ae,af,rfl,a⟩;refine Qg rfl rfl (Qi Y0 n)<|Qg rfl rfl (Qh (Ge d.state) Z4 rfl (b.bvB 0 rfl) (Z7 (rr i)))<|Qg rfl rfl (Yi rfl rfl)<|Qg rfl rfl (Qd (.bool (d.state != 3)) rfl) ?_;rcases ic a with ⟨ci,a⟩ | ⟨ci,a⟩<;>rw [ci];refine Qg rfl rfl (Qd _ ao)<|Qg rfl rfl (Yi rfl rfl)<|Qg rfl rfl (Zk (.bool (u != 0)) rfl rfl)<|Qa (Q5 (.bool (u != 0)) rfl rfl)<|Qj ?_;exact ⟨l,(u != 0),(Qb _ _ _),b,ad,aa,n,ae,af,rfl,a⟩;refine Qv 2 rfl<|Qg rfl rfl (Q5 (.bool false) rfl rfl)<|Qa (Q5 (.bool false) rfl rfl)<|Qj ?_;exact ⟨l,false,(Qb _ _ _),b,ad,aa,n,ae,af,rfl,a⟩;refine Qv 2 rfl<|Qg rfl rfl (Q5 (.bool false) rfl rfl)<|Qv 2 rfl<|Yy (Qi Y0 n)<|Yy (Qh (Ge d.state) Z4 rfl (b.bvB 0 rfl) (Z7 (rr i)))<|Yy (Yi rfl rfl)<|Yy (Qd (.bool (d.state != 3)) rfl) ?_;rcases ic a with ⟨cj,a⟩ | ⟨cj,a⟩<;>rw [cj];refine Qg rfl rfl (Qd _ ao)<|Qg rfl rfl (Yi rfl rfl)<|Qv 2 rfl<|Qj ?_;exact ⟨l,(u != 0),(Qb _ _ _),b,ad,aa,n,ae,af,rfl,a⟩;refine Qv 4 rfl<|Qj ?_;exact ⟨l,false,(Qb _ _ _),b,ad,aa,n,ae,af,rfl,a⟩;rintro _ _ ⟨a4,br,d6,b,d7,d8,d9,ea,eb,ec,a⟩;rw [qau] at a;refine Q4 a ec (fun ed a=>?_) fun ed a=>?_;refine Qz<|Qa (Qf (.bool false) rfl)<|Qj ?_;cases a;exact Q2 (Yn rfl rfl ⟨rfl,b.kept⟩);refine Qk<|Qe ?_;exact ⟨a4,d6,b,d7,d8,d9,ea,eb,a⟩;rintro _ _ ⟨o,bs,b,ai,ck,m,aj,ak,a⟩;replace i:=Zg bs i;rw [qqj] at a;refine Qu<|Qz<|Qa (Qi Y0 m)<|Qa (Qh (Ge d.state) Z4 rfl (b.bvB 0 rfl) (Z7 (rr i)))<|Qa (Z5 rfl rfl)<|Qj ?_;refine Q4 a rfl (fun ee a=>?_) fun ee a=>?_;refine Qu<|Qz ?_;have cl:=(rr i);refine Qa (Zb zal m (b.bvB 0 rfl) (Xx cl)) ?_;obtain ⟨ef,eg,a⟩:=Qc a;obtain ⟨eh,ei,ej⟩:∃ cs,qay (([(0,1),(1,1),(2,1),(3,1),(4,1),(5,1)]:List (Nat × Nat))[·]?) (Zr.zc GEntry) []=some cs∧rep o cs ef:=⟨_,Yd,Ye (x:=({ state:=Zr.zd,ops:=Zr.zd,first:=Zr.zd,deps:=Zr.zd,at_:=Zr.zd,values:=Zr.zd }:GEntry)) (Zr.zr:rep o (Zr.zc GEntry) (Zr.zd:GEntry)) eg⟩
 refine Qa (Z0 [] zgt Vl ei) ?_;obtain ⟨ek,el,a⟩:=Qc a;refine Ql<|Zi (vs:=[Gf (sl p (0) 6),Gf eh]) (v:= .bool ek) cb39 (Ya rfl rfl) b (q0d b.agree cl ej el) fun io b=>Qa (Yb rfl)<|Qj ?_;refine Q4 a rfl (fun em a=>?_) fun em a=>?_;refine Qz<|Qa (Qf (.bool false) rfl)<|Qj ?_;cases a;exact Q2 (Yn rfl rfl ⟨rfl,b.kept⟩);refine Qk<|Qe<|Zp<|Qq<|Zq<|Qe ?_;exact ⟨o,(an.trans bs),(Yz b cb),ai,aj,ak,a⟩;refine Qk<|Qe ?_;refine Qp (fun c h=>∃ ab,Gh w o ab∧Gi w ab [Gk k p 33,Gk j g 37] h∧c 1=Gg j∧c 4=Gg k∧c 14=Gf (sl g (0+0) 192)∧c 15=Ge e∧qqi fu e t d=some r) ?_ ?_;refine Qp (fun c h=>∃ a5 bu,Gh w o a5∧Gi w a5 [Gk k p 33,Gk j g 37] h∧c 1=Gg j∧c 4=Gg k∧c 14=Gf (sl g (0+0) 192)∧c 15=Ge e∧c 101= .bool bu∧qd9 fu e t d bu=some r) ?_ ?_;refine Q1<|Qa (Qi K2 m) ?_;obtain ⟨cm,en,eo⟩:=(Vi (rr i));refine Qa (Qh cm Y9 rfl (b.bvB 0 rfl) en) ?_;obtain ⟨cn,ep,a⟩:=Q0 a;refine Ql<|Zi (vs:=[cm]) (v:= .bool cn) zfp (Zl rfl) b (ep ▸ (qx3 b.agree eo)) fun ip b=>Qa (Yb rfl)<|Qa (Qd (.bool (!cn)) rfl) ?_;rcases ic a with ⟨co,a⟩ | ⟨co,a⟩<;>rw [co];refine Qv 32 rfl<|Qj ?_;exact ⟨o,true,(Qb _ _ _),b,ai,m,aj,ak,rfl,a⟩;refine Qg rfl rfl (Qi J1 m) ?_;obtain ⟨cp,er,es⟩:=(V2 (rr i));refine Qg rfl rfl (Qh cp Z2 rfl (b.bvB 0 rfl) er) ?_;obtain ⟨et,eu,a⟩:=Q0 a;refine Vo rfl rfl<|Zi (vs:=[cp]) (v:= .bool et) zfr (Zl rfl) b (eu ▸ (U3 b.agree es)) fun iq b=>Qg rfl rfl (Yb rfl)<|Qv 2 rfl ?_;rcases ic a with ⟨cq,a⟩ | ⟨cq,a⟩<;>rw [cq];refine Qv 26 rfl<|Qj ?_;exact ⟨o,true,(Qb _ _ _),b,ai,m,aj,ak,rfl,a⟩;refine Qg rfl rfl (Qi Jm m) ?_;obtain ⟨cr,ev,ew⟩:=(Vs (rr i));refine Qg rfl rfl (Qh cr Z2 rfl (b.bvB 0 rfl) ev) ?_;obtain ⟨ex,ey,a⟩:=Q0 a;refine Vo rfl rfl<|Zi (vs:=[cr]) (v:= .bool ex) zfr (Zl rfl) b (ey ▸ (U3 b.agree ew)) fun ir b=>Qg rfl rfl (Yb rfl)<|Qv 2 rfl ?_;rcases ic a with ⟨ct,a⟩ | ⟨ct,a⟩<;>rw [ct];refine Qv 20 rfl<|Qj ?_;exact ⟨o,true,(Qb _ _ _),b,ai,m,aj,ak,rfl,a⟩;refine Qg rfl rfl (Qi J1 m) ?_;obtain ⟨cu,ez,e0⟩:=(V2 (rr i));refine Qg rfl rfl (Qh cu Z2 rfl (b.bvB 0 rfl) ez)<|Qg rfl rfl (Qd _ ck) ?_;obtain ⟨e1,e2,a⟩:=Q0 a;refine Vo rfl rfl<|Zi (vs:=[cu,Ge e]) (v:= .bool e1) zbl (Ya rfl rfl) b (e2 ▸ (Uc b.agree e0)) fun iu b=>Qv 2 rfl ?_;rcases ic a with ⟨cv,a⟩ | ⟨cv,a⟩<;>rw [cv];refine Qv 14 rfl<|Qj ?_;exact ⟨o,true,(Qb _ _ _),b,ai,m,aj,ak,rfl,a⟩;refine Qg rfl rfl (Qi Jm m) ?_;obtain ⟨cw,e3,e4⟩:=(Vs (rr i));refine Qg rfl rfl (Qh cw Z2 rfl (b.bvB 0 rfl) e3)<|Qg rfl rfl (Qd _ ck) ?_;obtain ⟨e5,e6,a⟩:=Q0 a;refine Vo rfl rfl<|Zi (vs:=[cw,Ge e]) (v:= .bool e5) zbl (Ya rfl rfl) b (e6 ▸ (Uc b.agree e4)) fun iv b=>Qv 2 rfl ?_;rcases ic a with ⟨cx,a⟩ | ⟨cx,a⟩<;>rw [cx];refine Qv 8 rfl<|Qj ?_;exact ⟨o,true,(Qb _ _ _),b,ai,m,aj,ak,rfl,a⟩;refine Qg rfl rfl (Qi Vj m) ?_;obtain ⟨e7,e8,e9⟩:=(Yg (rr i));refine Qg rfl rfl (Qh e7 Z2 rfl (b.bvB 0 rfl) e8) ?_;obtain ⟨_,_,fa,_⟩:=Qy e9;refine Qg rfl rfl (Zh Qm (Vr fa rfl))<|Qg rfl rfl (Qi V7 m) ?_;obtain ⟨fb,fc,fd⟩:=(Y2 (rr i));refine Qg rfl rfl (Qh fb Z2 rfl (b.bvB 0 rfl) fc) ?_;obtain ⟨_,_,fe,_⟩:=Qy fd;refine Qg rfl rfl (Zh Qm (Vr fe rfl))<|Qg rfl rfl (Yi rfl rfl)<|Qa (Q5 (.bool ((d.at_.length:Int) != (d.values.length:Int))) rfl rfl)<|Qj ?_;exact ⟨o,((d.at_.length:Int) != (d.values.length:Int)),(Qb _ _ _),b,ai,m,aj,ak,rfl,a⟩;rintro _ _ ⟨a5,bu,ff,b,fg,fh,fi,fj,fk,a⟩;rw [qd9] at a;refine Q4 a fk (fun fl a=>?_) fun fl a=>?_;refine Qz<|Qa (Qf (.bool false) rfl)<|Qj ?_;cases a;exact Q2 (Yn rfl rfl ⟨rfl,b.kept⟩);refine Qk<|Qe ?_;exact ⟨a5,ff,b,fg,fh,fi,fj,a⟩;rintro _ _ ⟨ab,cy,b,ap,y,aq,ar,a⟩;replace i:=Zg cy i;rw [qqi] at a;refine Qp (fun c h=>∃ au,Gh w ab au∧Gi w au [Gk k p 33,Gk j g 37] h∧c 1=Gg j∧c 4=Gg k∧c 14=Gf (sl g (0+0) 192)∧c 15=Ge e∧qqh fu e t d=some r) ?_ ?_;refine Qp (fun c h=>∃ a6 bv,Gh w ab a6∧Gi w a6 [Gk k p 33,Gk j g 37] h∧c 1=Gg j∧c 4=Gg k∧c 14=Gf (sl g (0+0) 192)∧c 15=Ge e∧c 121= .bool bv∧qha fu e t d bv=some r) ?_ ?_;refine Q1<|Qa (Qi Y0 y)<|Qa (Qh (Ge d.state) Z4 rfl (b.bvB 0 rfl) (Z7 (rr i)))<|Qa (Z5 rfl rfl)<|Qa (Qd (.bool (d.state==1)) rfl) ?_;rcases ic a with ⟨c0,a⟩ | ⟨c0,a⟩<;>rw [c0];refine Qg rfl rfl (Qi Jm y) ?_;obtain ⟨fm,fn,fo⟩:=(Vs (rr i));refine Qg rfl rfl (Qh fm Z2 rfl (b.bvB 0 rfl) fn) ?_;obtain ⟨_,_,fp,_⟩:=Qy fo;refine Qg rfl rfl (Zh Qm (Vr fp rfl))<|Qg rfl rfl (Yx rfl rfl)<|Qv 2 rfl ?_;rcases ic a with ⟨c1,a⟩ | ⟨c1,a⟩<;>rw [c1];refine Qv 10 rfl<|Qj ?_;exact ⟨ab,true,(Qb _ _ _),b,ap,y,aq,ar,rfl,a⟩;refine Qg rfl rfl (Qi Y0 y)<|Qg rfl rfl (Qh (Ge d.state) Z4 rfl (b.bvB 0 rfl) (Z7 (rr i)))<|Qg rfl rfl (Zw rfl rfl)<|Qg rfl rfl (Qd (.bool (decide (d.state<3))) rfl) ?_;rcases ic a with ⟨c2,a⟩ | ⟨c2,a⟩<;>rw [c2];refine Qg rfl rfl (Qi Vj y) ?_;obtain ⟨fq,fr,fs⟩:=(Yg (rr i));refine Qg rfl rfl (Qh fq Z2 rfl (b.bvB 0 rfl) fr) ?_;obtain ⟨_,_,ft,_⟩:=Qy fs;refine Qg rfl rfl (Zh Qm (Vr ft rfl))<|Qg rfl rfl (Yx rfl rfl)<|Qg rfl rfl (Zk (.bool (decide ((d.at_.length:Int)>0))) rfl rfl)<|Qa (Q5 (.bool (decide ((d.at_.length:Int)>0))) rfl rfl)<|Qj ?_;exact ⟨ab,(decide ((d.at_.length:Int)>0)),(Qb _ _ _),b,ap,y,aq,ar,rfl,a⟩;refine Qv 4 rfl<|Qg rfl rfl (Q5 (.bool false) rfl rfl)<|Qa (Q5 (.bool false) rfl rfl)<|Qj ?_;exact ⟨ab,false,(Qb _ _ _),b,ap,y,aq,ar,rfl,a⟩;refine Qv 6 rfl<|Yy (Qi Y0 y)<|Yy (Qh (Ge d.state) Z4 rfl (b.bvB 0 rfl) (Z7 (rr i)))<|Yy (Zw rfl rfl)<|Yy (Qd (.bool (decide (d.state<3))) rfl) ?_;rcases ic a with ⟨c3,a⟩ | ⟨c3,a⟩<;>rw [c3];refine Qg rfl rfl (Qi Vj y) ?_;obtain ⟨fv,fw,fx⟩:=(Yg (rr i));refine Qg rfl rfl (Qh fv Z2 rfl (b.bvB 0 rfl) fw) ?_;obtain ⟨_,_,fy,_⟩:=Qy fx;refine Qg rfl rfl (Zh Qm (Vr fy rfl))<|Qg rfl rfl (Yx rfl rfl)<|Qv 2 rfl<|Qj ?_;exact ⟨ab,(decide ((d.at_.length:Int)>0)),(Qb _ _ _),b,ap,y,aq,ar,rfl,a⟩;refine Qv 6 rfl<|Qj ?_;exact ⟨ab,false,(Qb _ _ _),b,ap,y,aq,ar,rfl,a⟩;rintro _ _ ⟨a6,bv,fz,b,f0,f1,f2,f3,f4,a⟩;rw [qha] at a;refine Q4 a f4 (fun f5 a=>?_) fun f5 a=>?_;refine Qz<|Qa (Qf (.bool false) rfl)<|Qj ?_;cases a;exact Q2 (Yn rfl rfl ⟨rfl,b.kept⟩);refine Qk<|Qe ?_;exact ⟨a6,fz,b,f0,f1,f2,f3,a⟩;rintro _ _ ⟨au,c4,b,f6,c5,f7,f8,a⟩;replace i:=Zg c4 i;rw [qqh] at a;refine Qz<|Qa (Qf (Ge (-1)) rfl)<|Qj<|Qz<|Qa (Qi Vj c5) ?_;obtain ⟨av,ga,a7⟩:=(Yg (rr i));refine Qa (Qh av Z2 rfl (b.bvB 0 rfl) ga) ?_;obtain ⟨_,_,gb,_⟩:=Qy a7;refine Qa (Zh Qm (Vr gb rfl))<|Qa (Qd (Ge 0) rfl)<|Qj<|Qs ?_;refine Zy (fun bw c h=>∃ ag a8 z,Gh w au ag∧Gi w ag [Gk k p 33,Gk j g 37] h∧c 1=Gg j∧c 4=Gg k∧c 8=Ge a8∧c 14=Gf (sl g (0+0) 192)∧c 15=Ge e∧c 123=av∧c 124=Ge (d.at_.length:Int)∧c 125=Ge z∧qd1 e t d bw a8 z=some r) fu ?_ ?_ ?_;exact ⟨au,((-1):Int),(0:Int),(Qb _ _ _),b,f6,c5,rfl,f7,f8,rfl,rfl,rfl,a⟩;rintro c h ⟨_,_,_,_,_,_,_,_,_,_,_,_,_,a⟩;rw [qd1] at a;cases a;intro bw;rintro _ _ ⟨ag,a8,z,a9,b,bx,bz,gc,b0,b1,b2,b4,ba,a⟩;replace i:=Zg a9 i;replace a7:=Qo a9.1 a7;rw [qd1] at a;obtain ⟨b5,c6⟩:∃ f,f=qd1 e t d bw:=⟨_,rfl⟩;rw [← c6] at a;refine Qz<|Qa (Zw ba b4)<|Qj<|Qu ?_;refine Q4 a rfl (fun ge a=>?_) fun ge a=>?_;refine Qk<|Qe ?_;refine Qp (fun c h=>∃ bb bc,Gh w ag bb∧Gi w bb [Gk k p 33,Gk j g 37] h∧c 1=Gg j∧c 4=Gg k∧c 8=Ge bc∧c 14=Gf (sl g (0+0) 192)∧c 15=Ge e∧c 123=av∧c 124=Ge (d.at_.length:Int)∧c 125=Ge z∧qqf z b5 bc=some r) ?_ ?_;refine Qs<|Qz ?_;obtain ⟨q,_,_,_,_,gf,gg,gh,gi,gj,a⟩:=Yc 1 a7 a;refine Qa (Yp Ks b2 gf ba gg gh)<|Qa (Qh (Ge q) Z4 rfl (b.bvM gi) gj)<|Qa (Qf (Ge q) rfl)<|Qj ?_;refine Qp (fun c h=>∃ bd,Gh w ag bd∧Gi w bd [Gk k p 33,Gk j g 37] h∧c 1=Gg j∧c 4=Gg k∧c 10=Ge q∧c 14=Gf (sl g (0+0) 192)∧c 15=Ge e∧c 123=av∧c 124=Ge (d.at_.length:Int)∧c 125=Ge z∧qqg z b5 q=some r) ?_ ?_;refine Qp (fun c h=>∃ be b6,Gh w ag be∧Gi w be [Gk k p 33,Gk j g 37] h∧c 1=Gg j∧c 4=Gg k∧c 10=Ge q∧c 14=Gf (sl g (0+0) 192)∧c 15=Ge e∧c 123=av∧c 124=Ge (d.at_.length:Int)∧c 125=Ge z∧c 138= .bool b6∧qmr z b5 q b6=some r) ?_ ?_;refine Q1<|Qa (Qd (Ge q) rfl)<|Zj gc<|Qa (q6e rfl rfl)<|Qa (Qd (.bool (decide (q≤a8))) rfl) ?_;rcases ic a with ⟨c7,a⟩ | ⟨c7,a⟩<;>rw [c7];refine Qv 6 rfl<|Qj ?_;exact ⟨ag,true,(Qb _ _ _),b,bx,bz,rfl,b0,b1,b2,b4,ba,rfl,a⟩;refine Qg rfl rfl (Qd (Ge q) rfl)<|Qg rfl rfl (Qi K2 bz) ?_;obtain ⟨gk,gl,gm⟩:=(Vi (rr i));refine Qg rfl rfl (Qh gk Y9 rfl (b.bvB 0 rfl) gl) ?_;obtain ⟨_,_,gn,_⟩:=Qy gm;refine Qg rfl rfl (Zh Zx (Vr gn rfl))<|Qg rfl rfl (Kh rfl rfl)<|Qa (Q5 (.bool (decide (q≥(d.ops.length:Int)))) rfl rfl)<|Qj ?_;exact ⟨ag,(decide (q≥(d.ops.length:Int))),(Qb _ _ _),b,bx,bz,rfl,b0,b1,b2,b4,ba,rfl,a⟩;rintro _ _ ⟨be,b6,go,b,gp,gq,gr,gs,gt,gu,gv,gw,gx,a⟩;rw [qmr] at a;refine Q4 a gx (fun gy a=>?_) fun gy a=>?_;refine Qz<|Qa (Qf (.bool false) rfl)<|Qj ?_;cases a;exact Q2 (Yn rfl rfl ⟨rfl,b.kept⟩);refine Qk<|Qe ?_;exact ⟨be,go,b,gp,gq,gr,gs,gt,gu,gv,gw,a⟩;rintro _ _ ⟨bd,gz,b,g1,g2,g3,g4,g5,g6,g7,g8,a⟩;rw [qqg] at a;refine Q1<|Zj g3<|Qa (Qf (Ge q) rfl)<|Yk<|Q7<|Qe ?_;exact ⟨bd,q,gz,b,g1,g2,rfl,g4,g5,g6,g7,g8,a⟩;rintro _ _ ⟨bb,bc,g9,b,ha,hb,hc,hd,he,hf,hg,hh,a⟩;rw [qqf] at a;refine Q1<|Qa (Zu hh rfl)<|Qa (Qd (Ge (IntKind.wrap .i64 (z+1))) rfl)<|Qj ?_;exact ⟨bb,bc,(IntKind.wrap .i64 (z+1)),(a9.trans g9),b,ha,hb,hc,hd,he,hf,hg,rfl,(by rw [← c6];exact a)⟩;refine Zp<|Qq<|Qq<|Zq<|Q7<|Qe ?_;exact ⟨ag,(an.trans (bs.trans (cy.trans (c4.trans a9)))),(Yz b cb),bx,b0,b1,a⟩;rintro _ _ ⟨az,hi,b,hj,hk,hl,a⟩;rw [qg9] at a;refine Q1<|Qa (Zu hl rfl)<|Qa (Qd (Ge (IntKind.wrap .i64 (e+1))) rfl)<|Qj ?_;exact ⟨az,(IntKind.wrap .i64 (e+1)),(bk.trans hi),b,hj,hk,rfl,(by rw [← ca];exact a)⟩;refine Zp<|Qq<|Qq<|Zq<|Qe<|Qu<|Qz<|Qa (Qi J9 bl) ?_;obtain ⟨c8,hm,bg⟩:=(K5 (rr am));refine Qa (Qh c8 Z2 rfl (b.bvB 0 rfl) hm) ?_;obtain ⟨_,_,hn,_⟩:=Qy bg;refine Qa (Zh Qm (Vr hn rfl))<|Qa (Qd (Ge 0) rfl)<|Qj<|Qs ?_;refine Zy (fun b7 c h=>∃ bh aw,Gh w M6 bh∧Gi w bh [Gk j g 37] h∧c 143=c8∧c 144=Ge (s.order.length:Int)∧c 145=Ge aw∧qem s b7 aw=some r) fu ?_ ?_ ?_;exact ⟨M6,(0:Int),(Qb _ _ _),b,rfl,rfl,rfl,a⟩;rintro c h ⟨_,_,_,_,_,_,_,a⟩;rw [qem] at a;cases a;intro b7;rintro _ _ ⟨bh,aw,c9,b,da,db,b8,a⟩;replace bg:=Qo c9.1 bg;rw [qem] at a;obtain ⟨_,dc⟩:∃ f,f=qem s b7:=⟨_,rfl⟩;rw [← dc] at a;refine Qz<|Qa (Zw b8 db)<|Qj<|Qu ?_;refine Q4 a rfl (fun ho a=>?_) fun ho a=>?_;refine Qk<|Qe<|Qu<|Qs<|Qz ?_;obtain ⟨bi,_,_,_,_,hp,hq,hr,hs,ht,a⟩:=Yc 1 bg a;refine Qa (Yp Ks da hp b8 hq hr)<|Qa (Qh (Ge bi) Z4 rfl (b.bvM hs) ht)<|Qa (Qf (Ge bi) rfl)<|Qj<|Qz<|Qa (Qd (Ge bi) rfl) ?_;obtain ⟨hu,hv,a⟩:=Q0 a;refine Ql<|Zi (vs:=[Ge bi]) (v:= .bool hu) zbk (Zl rfl) b (hv ▸ (Ux)) fun j5 b=>Qa (Yb rfl)<|Qj ?_;refine Q4 a rfl (fun hw a=>?_) fun hw a=>?_;refine Qz<|Qa (Qf (.bool false) rfl)<|Qj ?_;cases a;exact Q2 (Yn rfl rfl ⟨rfl,b.kept⟩);refine Qk<|Q7<|Qe<|Q1<|Qa (Zu b8 rfl)<|Qa (Qd (Ge (IntKind.wrap .i64 (aw+1))) rfl)<|Qj ?_;exact ⟨bh,(IntKind.wrap .i64 (aw+1)),c9,b,da,db,rfl,(by rw [← dc];exact a)⟩;refine Zp<|Qq<|Qq<|Zq<|Qe<|Qz<|Qa (Qf (.bool true) rfl)<|Qj ?_;cases a;exact Q2 (Yn rfl rfl ⟨rfl,b.kept⟩)
def qms (y13:Int) (rec14:(List Int)→Int→Option (List Int)) (l22:List Int):Option (List Int) := rec14 l22 (IntKind.wrap .i64 (y13+1))
def qkh (b:List Int) (a:Int) (c:(List Int)→Int→Option (List Int)) (d:Bool):Option (List Int):=(bif d then (app b ([a]:List Int)).bind fun e=>qms a c e else qms a c b)
def qcc (b:GNode) (c:Int) (d:List GOp) (e:Int):Nat→(List Int)→Int→Option (List Int)
 | 0,_,_=>none
 | n+1,f,a=>(bif decide (a<32) then (bif a != c then (inR a 32).bind fun _=>(qan b.entries a).bind fun g=>(bif decide (g.state>0) then (inR a 32).bind fun _=>(qan b.entries a).bind fun h=>(some (qdb h.ops d e)).bind fun i=>qkh f a (qcc b c d e n) i else qkh f a (qcc b c d e n) false) else qkh f a (qcc b c d e n) false) else some f)
def qrn (fu:Nat) (x1:GNode) (x2:Int) (x3:List GOp) (x4:Int):Option (List Int) := qcc x1 x2 x3 x4 fu ([]:List Int) 0
theorem q0e {i:Gl} {n:Value} {x1:GNode} {e:Int} {x3:List GOp} {g:Int} {r:(List Int)} (hA:Agree M w) (ad:rep M i x1) (al:repL M n x3) (a:qrn fu x1 e x3 g=some r) :
    Calls Tryz.prog 78 #[Gf i,Ge e,n,Ge g] w (Gives M w (fun M' u=>repL M' u r)):=by
 refine Zm Tryz.func78 41 fun T hT=>?_;have a8:T 0=Gf i:=hT 0;have a9:T 1=Ge e:=hT 1;have ba:T 2=n:=hT 2;have bb:T 3=Ge g:=hT 3;have b:Gi w M [] w:=Zt hA;rw [qrn] at a;refine Qz ?_;refine Ql<|Yr (v:= Gf i) (cs:=i) a8 rfl b fun p w5 b9 b=>Qa (Qf ((.slice none 0 0)) rfl)<|Qj<|Qz<|Qa (Qf ((.slice none 0 0)) rfl)<|Qj<|Qu<|Qz<|Qa (Qd (Ge 0) rfl)<|Qj<|Qs ?_;replace b:=b.nilRow 3 1;refine Zy (fun am c q=>∃ h m s d,Gh w M h∧Gi w h [.row m 3 1,Gk p i 37] q∧repL h m s∧c 1=Ge e∧c 2=n∧c 3=Ge g∧c 4=Gg p∧c 9=m∧c 11=Ge d∧qcc x1 e x3 g am s d=some r) fu ?_ ?_ ?_;exact ⟨M,(.slice none 0 0),([]:List Int),(0:Int),(Qb _ _ _),b,(Zo _),a9,ba,bb,rfl,rfl,rfl,a⟩;rintro c q ⟨_,_,_,_,_,_,_,_,_,_,_,_,_,a⟩;rw [qcc] at a;cases a;intro am;rintro _ _ ⟨h,m,s,d,af,b,o,ag,ah,ai,t,aj,x,a⟩;replace ad:=Zg af ad;replace al:=Qo af.1 al;rw [qcc] at a;obtain ⟨aq,ar⟩:∃ f,f=qcc x1 e x3 g am:=⟨_,rfl⟩;rw [← ar] at a;refine Qz<|Qa (Zw x rfl)<|Qj<|Qu ?_;refine Q4 a rfl (fun bc a=>?_) fun bc a=>?_;refine Qk<|Qe ?_;refine Qp (fun c q=>∃ y z ak,Gh w h y∧Gi w y [.row z 3 1,Gk p i 37] q∧repL y z ak∧c 1=Ge e∧c 2=n∧c 3=Ge g∧c 4=Gg p∧c 9=z∧c 11=Ge d∧qms d aq ak=some r) ?_ ?_;refine Qs<|Qz<|Zj x<|Qa (Qf (Ge d) rfl)<|Qj ?_;refine Qp (fun c q=>∃ aa an,Gh w h aa∧Gi w aa [.row m 3 1,Gk p i 37] q∧c 1=Ge e∧c 2=n∧c 3=Ge g∧c 4=Gg p∧c 9=m∧c 10=Ge d∧c 11=Ge d∧c 34= .bool an∧qkh s d aq an=some r) ?_ ?_;refine Q1<|Qa (Qd (Ge d) rfl)<|Zj ag<|Qa (Yi rfl rfl)<|Qa (Qd (.bool (d != e)) rfl) ?_;rcases ic a with ⟨au,a⟩ | ⟨au,a⟩<;>rw [au];refine Qg rfl rfl (Qd (Ge d) rfl)<|Qg rfl rfl (Qi V1 t) ?_;obtain ⟨bd,be,a⟩:=Qn a;refine Qg rfl rfl (Ze Un rfl rfl bd be)<|Qg rfl rfl (Qi Y0 rfl) ?_;obtain ⟨bg,bh,a⟩:=Qc a;refine Qg rfl rfl (Qh (Ge bg.state) Z4 rfl (b.bvB 1 rfl) (Z7 (vp (k:=6) rfl rfl (Q6 (rr ad)) bh)))<|Qg rfl rfl (Yx rfl rfl)<|Qv 2 rfl ?_;rcases ic a with ⟨av,a⟩ | ⟨av,a⟩<;>rw [av];refine Qg rfl rfl (Qd (Ge d) rfl)<|Qg rfl rfl (Qi V1 t) ?_;obtain ⟨bi,bj,a⟩:=Qn a;refine Qg rfl rfl (Ze Un rfl rfl bi bj)<|Qg rfl rfl (Qi K2 rfl) ?_;obtain ⟨_,bk,a⟩:=Qc a;obtain ⟨aw,bl,bm⟩:=(Vi (vp (k:=6) rfl rfl (Q6 (rr ad)) bk));refine Qg rfl rfl (Qh aw Y9 rfl (b.bvB 1 rfl) bl)<|Qg rfl rfl (Qd _ ah)<|Qg rfl rfl (Qd _ ai) ?_;obtain ⟨ao,bn,a⟩:=Q0 a;refine Vo rfl rfl<|Zi (vs:=[aw,n,Ge g]) (v:= .bool ao) cb97 (Jq rfl rfl rfl) b (bn ▸ (zbv b.agree bm al)) fun cd b=>Qa (Zk (.bool ao) rfl rfl)<|Qj ?_;exact ⟨h,ao,(Qb _ _ _),b,ag,ah,ai,t,aj,rfl,x,rfl,a⟩;refine Qv 9 rfl<|Qj ?_;exact ⟨h,false,(Qb _ _ _),b,ag,ah,ai,t,aj,rfl,x,rfl,a⟩;refine Qv 17 rfl<|Qj ?_;exact ⟨h,false,(Qb _ _ _),b,ag,ah,ai,t,aj,rfl,x,rfl,a⟩;rintro _ _ ⟨aa,an,ap,b,ax,ay,az,a0,a1,bo,a2,bp,a⟩;replace o:=Qo ap.1 o;rw [qkh] at a;refine Q4 a bp (fun bq a=>?_) fun bq a=>?_;refine Q1<|Zj a1<|Zj bo ?_;refine Ql (Zz (α := Int) (l:=([d]:List Int)) [Ge d] J4 (Y3 rfl Vl) rfl rfl E9 E9 E9 b (Jj (ri d:rep aa _ _) Jv) ?_);intro _ _ _ a3 br b;replace o:=Qo a3.1 o;obtain ⟨bs,bu,bv,a⟩:=Z1 a;refine Ql (Yq (α := Int) (j:=0) Kv b rfl rfl rfl o br bu ?_);intro a4 bw _ bx a5 b;rw [← bv] at a5;refine Qa (Qf (a4) rfl)<|Yk<|Q7<|Qe ?_;exact ⟨bw,a4,bs,(ap.trans (a3.trans bx)),b,a5,ax,ay,az,a0,rfl,a2,a⟩;refine Qk<|Q7<|Qe ?_;exact ⟨aa,m,s,ap,b,o,ax,ay,az,a0,a1,a2,a⟩;rintro _ _ ⟨y,z,ak,bz,b,b0,b1,b2,b3,b4,b5,b7,a⟩;rw [qms] at a;refine Q1<|Qa (Zu b7 rfl)<|Qa (Qd (Ge (IntKind.wrap .i64 (d+1))) rfl)<|Qj ?_;exact ⟨y,z,ak,(IntKind.wrap .i64 (d+1)),(af.trans bz),b,b0,b1,b2,b3,b4,b5,rfl,(by rw [← ar];exact a)⟩;refine Zp<|Qq<|Qq<|Zq<|Qe<|Qz<|Zj aj<|Qa (Qf (m) rfl)<|Qj ?_;cases a;exact Q2 (Yn rfl rfl (Zc b af o))
def qea (c:GNode):Nat→GGraph→Int→Option GGraph
 | 0,_,_=>none
 | n+1,b,a=>(bif decide (a<32) then (inR a 32).bind fun _=>(qan c.entries a).bind fun e=>(inR a 32).bind fun _=>(qan b.known a).bind fun k=>(qc1 b.known a (decide (e.state>1))).bind fun f=>(some ({ b with known:=f }:GGraph)).bind fun d=>(inR a 32).bind fun _=>(qan c.entries a).bind fun g=>(inR a 32).bind fun _=>(qan d.deps a).bind fun l=>(qc1 d.deps a g.deps).bind fun h=>(some ({ d with deps:=h }:GGraph)).bind fun i=>(qea c n) i (IntKind.wrap .i64 (a+1)) else (some b).bind fun j=>some j)
def qtc (fu:Nat) (x1:GNode):Option GGraph := qea x1 fu (Zr.zd:GGraph) 0
theorem q5i {d:Gl} {i:GNode} {r:GGraph} (hA:Agree M w) (l:rep M d i) (a:qtc fu i=some r) :
    Calls Tryz.prog 79 #[Gf d] w (Gives M w (fun M' u=>∃ cs,u=Gf cs∧rep M' cs r)):=by
 refine Zm Tryz.func79 27 fun T hT=>?_;have am:T 0=Gf d:=hT 0;have b:Gi w M [] w:=Zt hA;rw [qtc] at a;refine Qz ?_;refine Ql<|Yr (v:= Gf d) (cs:=d) am rfl b fun b3 w2 be b=>Ql (Zn q4y b ?_);intro b5 _ _ b;have m:rep M (Zr.zc GGraph) (Zr.zd:GGraph):=Zr.zr;refine Qj<|Qz ?_;refine Ql (Zn q4y b ?_);intro b7 _ _ b;have an:rep M (Zr.zc GGraph) (Zr.zd:GGraph):=Zr.zr;refine Qj<|Qu<|Qz<|Qa (Qd (Ge 0) rfl)<|Qj<|Qs ?_;refine Zy (fun q g w'=>∃ c s t e,Gh w M c∧Gi w c [Gk b7 s 128,Gk b5 (Zr.zc GGraph) 128,Gk b3 d 37] w'∧rep c s t∧g 1=Gg b3∧g 2=Gg b5∧g 3=Gg b7∧g 5=Ge e∧qea i q t e=some r) fu ?_ ?_ ?_;exact ⟨M,(Zr.zc GGraph),(Zr.zd:GGraph),(0:Int),(Qb _ _ _),b,an,rfl,rfl,rfl,rfl,a⟩;rintro g w' ⟨_,_,_,_,_,_,_,_,_,_,_,a⟩;rw [qea] at a;cases a;intro q;rintro _ _ ⟨c,s,t,e,n,b,h,x,y,o,z,a⟩;replace l:=Zg n l;replace m:=Zg n m;rw [qea] at a;obtain ⟨_,ah⟩:∃ f,f=qea i q:=⟨_,rfl⟩;rw [← ah] at a;refine Qz<|Qa (Zw z rfl)<|Qj<|Qu ?_;refine Q4 a rfl (fun ao a=>?_) fun ao a=>?_;refine Qk<|Qe<|Qu<|Qs<|Qz<|Zj z<|Qa (Qf (Ge e) rfl)<|Qj<|Qz<|Qv 2 rfl<|Qa (Qi V1 x) ?_;obtain ⟨ap,aq,a⟩:=Qn a;refine Qa (Ze Un rfl rfl ap aq)<|Qa (Qi Y0 rfl) ?_;obtain ⟨aa,ar,a⟩:=Qc a;refine Qa (Qh (Ge aa.state) Z4 rfl (b.bvB 2 rfl) (Z7 (vp (k:=6) rfl rfl (Q6 (rr l)) ar)))<|Qa (Yx rfl rfl)<|Qa (Qi U9 o) ?_;obtain ⟨au,av,a⟩:=Qn a;refine Qa (Ze Ke rfl rfl au av) ?_;obtain ⟨_,aw,a⟩:=Qc a;obtain ⟨_,ax,a⟩:=Qc a;obtain ⟨_,ay,a⟩:=Qc a;refine Ql (Z8 0 1 b h (rb (decide (aa.state>1)):rep c _ _) (GGraph.u0 (rr h) (vu (k:=1) rfl rfl (Jt (rr h)) (Lf (vp (k:=1) rfl rfl (Jt (rr h)) aw) (rb (decide (aa.state>1)):rep c _ _)) ax)) ay ?_);intro _ _ p _ _ b;refine Qj<|Q1<|Qv 2 rfl<|Qa (Qi V1 x) ?_;obtain ⟨az,a0,a⟩:=Qn a;refine Qa (Ze Un rfl rfl az a0)<|Qa (Qi Jm rfl) ?_;obtain ⟨_,a1,a⟩:=Qc a;obtain ⟨a2,a3,ab⟩:=(Vs (vp (k:=6) rfl rfl (Q6 (rr l)) a1));refine Qa (Qh a2 Z2 rfl (b.bvB 2 rfl) a3)<|Qa (Qi Xa o) ?_;obtain ⟨a4,a5,a⟩:=Qn a;refine Qa (Ze q4x rfl rfl a4 a5) ?_;obtain ⟨_,a6,a⟩:=Qc a;obtain ⟨_,a7,a⟩:=Qc a;obtain ⟨a8,a9,a⟩:=Qc a;refine Ql<|Z9 0 1 b rfl p rfl rfl (Qt ab) (Q8 ab) rfl (GGraph.u1 (rr p) (vu (k:=1) rfl rfl (Ju (rr p)) (Lf (vp (k:=1) rfl rfl (Ju (rr p)) a6) (Qt ab)) a7)) a9 fun ba bz bb b0 b1 b=>Yk<|Q7<|Qe<|Q1<|Qa (Zu z rfl)<|Qa (Qd (Ge (IntKind.wrap .i64 (e+1))) rfl)<|Qj ?_;exact ⟨c,ba,a8,(IntKind.wrap .i64 (e+1)),n,b,bb,x,y,o,rfl,(by rw [← ah];exact a)⟩;refine Zp<|Qq<|Qq<|Zq<|Qe<|Qz ?_;have ac:=(rr h);refine Qa (Zb Ur o (b.bvB 0 rfl) (Xx ac)) ?_;obtain ⟨_,bc,a⟩:=Qc a;refine Ql<|Z9 1 64 b rfl m y rfl ac rfl rfl (Lf (rr m) ac) bc fun b4 b6 ai b8 b9 b=>Qj ?_;cases a;exact Q2 (J5 (j:=1) rfl y (Vz Ur ai) b rfl (Zc b n ⟨_,rfl,ai⟩))
def qfs (y48:Int) (rec49:GEntry→GNode→Int→Option GNode) (d58:GEntry) (d60:GNode):Option GNode := rec49 d58 d60 (IntKind.wrap .i64 (y48+1))
def qh3 (y48:Int) (rec49:GEntry→GNode→Int→Option GNode) (d104:GNode) (d112:GEntry):Option GNode := qfs y48 rec49 d112 d104
def qbq (c:Int) (g:Int) (f:GEntry):Nat→GEntry→GNode→Int→Option GNode
 | 0,_,_,_=>none
 | n+1,d,a,e=>(bif decide (e<(f.ops.length:Int)) then (idx f.ops e).bind fun j=>(some j).bind fun b=>(some (qa4 b.key)).bind fun k=>(bif k != g then qfs e (qbq c g f n) d a else (inR b.key 8).bind fun _=>(qan a.values b.key).bind fun l=>(some (doZ l b)).bind fun h=>(inR b.key 8).bind fun _=>(qan a.values b.key).bind fun w=>(qc1 a.values b.key h).bind fun m=>(some ({ a with values:=m }:GNode)).bind fun o=>(app d.at_ ([e]:List Int)).bind fun p=>(app d.values ([h]:List Int)).bind fun q=>(some ({ d with at_:=p }:GEntry)).bind fun r=>(some ({ r with values:=q }:GEntry)).bind fun s=>qh3 e (qbq c g f n) o s) else (inR c 32).bind fun _=>(qan a.entries c).bind fun x=>(qc1 a.entries c d).bind fun t=>(some ({ a with entries:=t }:GNode)).bind fun i=>(app i.order ([c]:List Int)).bind fun u=>(some ({ i with order:=u }:GNode)).bind fun v=>some v)
def qi3 (fu:Nat) (b:GNode) (a:Int) (d:Int):Option GNode:=(inR a 32).bind fun _=>(qan b.entries a).bind fun e=>(some e).bind fun f=>(some ({ f with state:=3 }:GEntry)).bind fun g=>(some ({ g with at_:=[] }:GEntry)).bind fun h=>(some ({ h with values:=[] }:GEntry)).bind fun c=>qbq a d c fu c b 0
theorem qyg {h:Nat} {z:Gl} {ab:Value} {x1:GNode} {x:Int} {x4:Int} {r:GNode} (a:St w (qai [Gk h z 37,.row ab 3 1]) M [Gk h z 37,.row ab 3 1] w) (cx:rep M z x1) (dw:sl z 192 1=[ab]) (b:qi3 fu x1 x x4=some r) :
    Calls Tryz.prog 81 #[Gg h,Ge x,Ge x4] w (qdq M w [Gk h z 37,.row ab 3 1] (fun M' u L'=>∃ k0 u1,u= .tuple #[]∧L'=[Gk h k0 37,.row u1 3 1]∧rep M' k0 r∧sl k0 192 1=[u1])):=by
 refine Zm Tryz.func81 77 fun T hT=>?_;have c0:T 0=Gg h:=hT 0;have c1:T 1=Ge x:=hT 1;have dz:T 2=Ge x4:=hT 2;rw [qi3] at b;refine Qz<|Zj c0<|Zj c1<|Qa (Q9 rfl)<|Qa (Qi V1 rfl) ?_;obtain ⟨d0,d1,b⟩:=Qn b;refine Qa (Ze Un rfl rfl d0 d1) ?_;obtain ⟨_,d2,b⟩:=Qc b;have ce:=(vp (k:=6) rfl rfl (Q6 (rr cx)) d2);refine Qa (Zb zal rfl (a.bvB 0 rfl) (Xx ce)) ?_;refine Ql (Zn q9i a ?_);intro ak _ _ a;have c2:rep M (Zr.zc GEntry) (Zr.zd:GEntry):=Zr.zr;have gn:sl (Zr.zc GEntry) 4 1=[.slice none 0 0]:=by rfl
 replace a:=a.nilRow 3 1;have go:sl (Zr.zc GEntry) 5 1=[.slice none 0 0]:=by rfl
 replace a:=a.nilRow 3 1;obtain ⟨_,d3,b⟩:=Qc b;refine Ql (Z8 2 6 a c2 ce (Lf (rr c2) ce) d3 ?_);intro _ _ cf _ _ a;refine Qj<|Qz<|Qa (Qi Y0 rfl) ?_;obtain ⟨_,d4,b⟩:=Qc b;refine Ql (Z8 2 1 a cf (ri 3:rep M _ _) (Xn (rr cf) (Lf (Z7 (rr cf)) (ri 3:rep M _ _))) d4 ?_);intro _ _ cg _ _ a;refine Qa (Qi Vj rfl) ?_;replace a:=a.nilRow 3 1;obtain ⟨_,d5,b⟩:=Qc b;refine Ql (Z8 3 1 a cg (show rep M [Value.slice none 0 0] ([]:List Int) from Qt (Zo _)) (Jb (rr cg) (Lf (Yg (rr cg)) (show rep M [Value.slice none 0 0] ([]:List Int) from Qt (Zo _)))) d5 ?_);intro _ _ ch _ d6 a;have d7:=d6;refine Qa (Qi V7 rfl) ?_;replace a:=a.nilRow 3 1;obtain ⟨au,d8,b⟩:=Qc b;refine Ql (Z8 4 1 a ch (show rep M [Value.slice none 0 0] ([]:List Int) from Qt (Zo _)) (Jc (rr ch) (Lf (Y2 (rr ch)) (show rep M [Value.slice none 0 0] ([]:List Int) from Qt (Zo _)))) d8 ?_);intro d9 _ c3 ea eb a;have ec:=(ea E8).trans d7;have ed:=eb;refine Qj<|Qu<|Qz<|Qa (Qi K2 rfl) ?_;obtain ⟨br,ee,bs⟩:=(Vi (rr c3));refine Qa (Qh br Y9 rfl (a.bvB 4 rfl) ee) ?_;obtain ⟨_,_,ef,_⟩:=Qy bs;refine Qa (Zh Zx (Vr ef rfl))<|Qa (Qd (Ge 0) rfl)<|Qj<|Qs ?_;refine Zy (fun ci c w'=>∃ q ae bu aw bv am an ao o,Mm.ext w.heap.size (qai [Gk h z 37,.row ab 3 1]) M q∧St w (qai [Gk h z 37,.row ab 3 1]) q [.row ao 3 1,.row an 3 1,.row (.slice none 0 0) 3 1,.row (.slice none 0 0) 3 1,Gk ak ae 33,Gk h aw 37,.row am 3 1] w'∧rep q ae bu∧rep q aw bv∧sl aw (0+192) 1=[am]∧sl ae (0+4) 1=[an]∧sl ae (0+5) 1=[ao]∧c 0=Gg h∧c 1=Ge x∧c 2=Ge x4∧c 6=Gg ak∧c 20=br∧c 21=Ge (au.ops.length:Int)∧c 22=Ge o∧qbq x x4 au ci bu bv o=some r) fu ?_ ?_ ?_;exact ⟨M,d9,au,z,x1,ab,(.slice none 0 0),(.slice none 0 0),(0:Int),(Qb _ _ _),a,c3,cx,dw,ec,ed,c0,c1,dz,rfl,rfl,rfl,rfl,b⟩;rintro c w' ⟨_,_,_,_,_,_,_,_,_,_,_,_,_,_,_,_,_,_,_,_,_,_,_,b⟩;rw [qbq] at b;cases b;intro ci;rintro _ _ ⟨q,ae,bu,aw,bv,am,an,ao,o,cj,a,e,af,ck,bw,ap,ah,ax,a5,y,a6,a7,aq,b⟩;replace bs:=Qo cj.1 bs;rw [qbq] at b;obtain ⟨c4,c5⟩:∃ f,f=qbq x x4 au ci:=⟨_,rfl⟩;rw [← c5] at b;refine Qz<|Qa (Zw aq a7)<|Qj<|Qu ?_;refine Q4 b rfl (fun eg b=>?_) fun eg b=>?_;refine Qk<|Qe ?_;refine Qp (fun c w'=>∃ ay az bx a8 bz b0 b1 b2,Mm.ext w.heap.size (qai [Gk h z 37,.row ab 3 1]) q ay∧St w (qai [Gk h z 37,.row ab 3 1]) ay [.row b2 3 1,.row b1 3 1,.row (.slice none 0 0) 3 1,.row (.slice none 0 0) 3 1,Gk ak az 33,Gk h a8 37,.row b0 3 1] w'∧rep ay az bx∧rep ay a8 bz∧sl a8 (0+192) 1=[b0]∧sl az (0+4) 1=[b1]∧sl az (0+5) 1=[b2]∧c 0=Gg h∧c 1=Ge x∧c 2=Ge x4∧c 6=Gg ak∧c 20=br∧c 21=Ge (au.ops.length:Int)∧c 22=Ge o∧qfs o c4 bx bz=some r) ?_ ?_;refine Qs<|Qz<|Zj aq ?_;obtain ⟨_,_,_,_,_,eh,ei,ej,ek,el,b⟩:=Yc 3 bs b;refine Qa (Yp q8x a6 eh aq ei ej) ?_;have cl:=el;refine Qa (Zb q8z rfl (a.bvM ek) (Xx cl)) ?_;refine Ql (Zn zbe a ?_);intro cm _ c6 a;have c7:rep q (Zr.zc GOp) (Zr.zd:GOp):=Zr.zr;refine Qa (Qf (Ge o) rfl) ?_;obtain ⟨b3,em,b⟩:=Qc b;refine Ql (Z8 0 3 a c7 cl (Lf (rr c7) cl) em ?_);intro b4 _ b5 _ _ a;refine Qj<|Qu<|Qz<|Qa (Qi Jy rfl)<|Qa (Qh (Ge b3.key) Z4 rfl (a.bvB 0 rfl) (Jz (rr b5))) ?_;obtain ⟨en,eo,b⟩:=Q0 b;refine Ql<|Zi (vs:=[Ge b3.key]) (v:= Ge en) zhb (Zl rfl) a (eo ▸ (qtt)) fun hi a=>Zj a5<|Qa (Yi rfl rfl)<|Qj ?_;refine Q4 b rfl (fun ep b=>?_) fun ep b=>?_;refine Zp<|Qq<|Zq<|Qe ?_;exact ⟨q,ae,bu,aw,bv,am,an,ao,(Qb _ _ _),(Yz a c6),e,af,ck,bw,ap,ah,ax,a5,y,a6,a7,aq,b⟩;refine Qk<|Qe<|Qu<|Ys [Gk cm b4 99,Gk h aw 37] [] Z6 a fun hj a er al=>Qw 0 rfl (Qd _ ah) al<|Qw 1 rfl (Qi Jy rfl) al<|Y4 2 rfl (Qh (Ge b3.key) Z4 rfl (Ym 0 rfl) (Jz (rr b5))) al<|Qw 3 rfl (Q9 rfl) al<|Qw 4 rfl (Qi qzl rfl) al ?_;obtain ⟨es,et,b⟩:=Qn b;refine Qw 5 rfl (Ze zdx rfl rfl es et) al ?_;obtain ⟨c8,eu,b⟩:=Qc b;refine Y4 6 rfl (Qh (Ge c8) Z4 rfl (Ym 1 rfl) (vp (k:=1) rfl rfl (Ue (rr af)) eu)) al ?_;have c9:=(rr b5);refine Y4 7 rfl (Zb q8z rfl (Ym 0 rfl) (Xx c9)) al ?_;obtain ⟨p,ev,b⟩:=Q0 b;refine w1 8 rfl<|Zi (vs:=[Ge c8,Gf (sl b4 (0) 3)]) (v:= Ge p) zhf (Ya rfl rfl) a (ev ▸ (ze5 a.agree c9)) fun hk a=>Yj a er fun ew=>Qw 9 rfl (Qf (Ge p) rfl) ew<|wd<|Qe<|Qu<|Ys [Gk cm b4 99] [] Z6 a fun hl a ex ar=>Qw 0 rfl (Qd _ ah) ar<|Qw 1 rfl (Qi Jy rfl) ar<|Y4 2 rfl (Qh (Ge b3.key) Z4 rfl (Ym 0 rfl) (Jz (rr b5))) ar<|Qw 3 rfl (Qd (Ge p) rfl) ar<|Qw 4 rfl (Q9 rfl) ar<|Qw 5 rfl (Qi qzl rfl) ar ?_;obtain ⟨ey,ez,b⟩:=Qn b;refine Qw 6 rfl (Ze zdx rfl rfl ey ez) ar ?_;obtain ⟨_,da,b⟩:=Qc b;obtain ⟨_,e0,b⟩:=Qc b;obtain ⟨db,e1,b⟩:=Qc b;have ho:=(Zs da);refine w1 7 rfl (Z8 6 1 a af (ri p:rep q _ _) (GNode.u2 (rr af) (vu (k:=1) rfl rfl (Ue (rr af)) (Lf (vp (k:=1) rfl rfl (Ue (rr af)) da) (ri p:rep q _ _)) e0)) e1 ?_);intro dc _ cn e2 _ a;have e3:=(e2 E8).trans ck;refine Yj a ex fun hr=>wd<|Qe ?_;refine W_J (fun c w'=>∃ a9 a0 b6 b7 b8,Mm.ext w.heap.size (qai [Gk h z 37,.row ab 3 1]) q a9∧St w (qai [Gk h z 37,.row ab 3 1]) a9 [Gk cm b4 99,.row b8 3 1,.row b7 3 1,.row (.slice none 0 0) 3 1,.row (.slice none 0 0) 3 1,Gk ak a0 33,Gk h dc 37,.row am 3 1] w'∧rep a9 a0 b6∧sl a0 (0+4) 1=[b7]∧sl a0 (0+5) 1=[b8]∧c 0=Gg h∧c 1=Ge x∧c 2=Ge x4∧c 6=Gg ak∧c 20=br∧c 21=Ge (au.ops.length:Int)∧c 22=Ge o∧qh3 o c4 db b6=some r) ?_ ?_;refine Ys [Gk ak ae 33] [11,13] Z6 a fun hs a ac a1=>Qw 0 rfl (Qi Vj y) a1 ?_;obtain ⟨_,e4,ag⟩:=(Yg (rr e));rw [Y6 e4 bw] at ag;refine Y4 1 rfl (Qh an Z2 rfl (Ym 0 rfl) bw) a1<|Qw 2 rfl (Qd (Ge o) rfl) a1<|Qw 5 rfl (Qi V7 y) a1 ?_;obtain ⟨_,e5,aa⟩:=(Y2 (rr e));rw [Y6 e5 ap] at aa;refine Y4 6 rfl (Qh ao Z2 rfl (Ym 0 rfl) ap) a1<|Qw 7 rfl (Qd (Ge p) rfl) a1 ?_;obtain ⟨_,co,b⟩:=Qc b;obtain ⟨_,cp,b⟩:=Qc b;obtain ⟨_,cq,b⟩:=Qc b;obtain ⟨cr,cs,b⟩:=Qc b;refine Ua (i:=3) (j:=8) Ga rfl rfl (Zz (α := Int) (l:=([o]:List Int)) [Ge o] J4 (Y3 rfl Vl) rfl rfl E9 E9 E9 a (Jj (ri o:rep q _ _) Jv) ?_) (Zz (α := Int) (l:=([p]:List Int)) [Ge p] J4 (Y3 rfl Vl) rfl rfl E9 E9 E9 a (Jj (ri p:rep q _ _) Jv) ?_);intro e6 dd e7 g a2 a;replace e:=Zg g e;replace ag:=Qo g.1 ag;replace aa:=Qo g.1 aa;refine Yj a (ac.trans g) fun hy=>?_;obtain ⟨ba,bb⟩:=Kw co;refine Ua (i:=4) (j:=8) Ga rfl rfl (Yq (α := Int) (j:=2) Kv a rfl rfl rfl ag a2 ba ?_) (Zz (α := Int) (l:=([p]:List Int)) [Ge p] J4 (Y3 rfl Vl) rfl rfl E9 E9 E9 a (Jj (ri p:rep dd _ _) Jv) ?_);intro bc ct de m n a;rw [← bb] at n;refine Yj a (ac.trans (g.trans m)) fun e8=>Qw 10 rfl (Qi Vj y) e8 ?_;refine w1 8 rfl (Zz (α := Int) (l:=([p]:List Int)) [Ge p] J4 (Y3 rfl Vl) rfl rfl E9 E9 E9 a (Jj (ri p:rep ct _ _) Jv) ?_);intro df cu dg d ai a;replace aa:=Qo (m.1.trans d.1) aa;refine Yj a (ac.trans (g.trans (m.trans d))) fun h0=>?_;obtain ⟨bd,be⟩:=Kw cp;refine w1 9 rfl (Yq (α := Int) (j:=1) Kv a rfl rfl rfl aa ai bd ?_);intro bg bh dh s t a;rw [← be] at t;replace e:=Bo (m.1.trans (d.1.trans s.1)) e;replace n:=Qo (d.1.trans s.1) n;refine Yj a (ac.trans (g.trans (m.trans (d.trans s)))) fun h1=>?_;refine w1 11 rfl (Z9 5 1 a rfl e rfl rfl (Qt n) (Q8 n) rfl (Jb (rr e) (Lf (Yg (rr e)) (Qt n))) cq ?_);intro di dj ad bi bj a;have dk:=(bi E8).trans ap;have bk:=bj;refine ⟨nB,?_⟩;refine wy 12 rfl (Qi V7 y) nB ?_;refine w1 13 rfl (Z9 5 1 a rfl ad rfl rfl (Qt t) (Q8 t) rfl (Jc (rr ad) (Lf (Y2 (rr ad)) (Qt t))) cs ?_);intro bl dl bm bn bo a;have bp:=(bn E8).trans bk;have bq:=bo;refine ⟨nB,?_⟩;refine wd<|Qe ?_;exact ⟨bh,bl,cr,bc,bg,(g.trans (m.trans (d.trans s))),a,bm,bp,bq,ah,ax,a5,y,a6,a7,aq,b⟩;intro df cu dg d ai a;replace ag:=Qo d.1 ag;replace a2:=Qo d.1 a2;refine Yj a (ac.trans (g.trans d)) fun h2=>?_;obtain ⟨ba,bb⟩:=Kw co;refine w1 4 rfl (Yq (α := Int) (j:=2) Kv a rfl rfl rfl ag a2 ba ?_);intro bc ct de m n a;rw [← bb] at n;replace aa:=Qo (d.1.trans m.1) aa;replace ai:=Qo m.1 ai;refine Yj a (ac.trans (g.trans (d.trans m))) fun e9=>Qw 10 rfl (Qi Vj y) e9 ?_;obtain ⟨bd,be⟩:=Kw cp;refine w1 9 rfl (Yq (α := Int) (j:=1) Kv a rfl rfl rfl aa ai bd ?_);intro bg bh dh s t a;rw [← be] at t;replace e:=Bo (d.1.trans (m.1.trans s.1)) e;replace n:=Qo s.1 n;refine Yj a (ac.trans (g.trans (d.trans (m.trans s)))) fun h3=>?_;refine w1 11 rfl (Z9 5 1 a rfl e rfl rfl (Qt n) (Q8 n) rfl (Jb (rr e) (Lf (Yg (rr e)) (Qt n))) cq ?_);intro di dj ad bi bj a;have dk:=(bi E8).trans ap;have bk:=bj;refine ⟨nB,?_⟩;refine wy 12 rfl (Qi V7 y) nB ?_;refine w1 13 rfl (Z9 5 1 a rfl ad rfl rfl (Qt t) (Q8 t) rfl (Jc (rr ad) (Lf (Y2 (rr ad)) (Qt t))) cs ?_);intro bl dl bm bn bo a;have bp:=(bn E8).trans bk;have bq:=bo;refine ⟨nB,?_⟩;refine wd<|Qe ?_;exact ⟨bh,bl,cr,bc,bg,(g.trans (d.trans (m.trans s))),a,bm,bp,bq,ah,ax,a5,y,a6,a7,aq,b⟩;intro df cu dg d ai a;refine Yj a (ac.trans d) fun h4=>?_;refine w1 3 rfl (Zz (α := Int) (l:=([o]:List Int)) [Ge o] J4 (Y3 rfl Vl) rfl rfl E9 E9 E9 a (Jj (ri o:rep cu _ _) Jv) ?_);intro e6 dd e7 g a2 a;replace ag:=Qo (d.1.trans g.1) ag;refine Yj a (ac.trans (d.trans g)) fun h5=>?_;obtain ⟨ba,bb⟩:=Kw co;refine w1 4 rfl (Yq (α := Int) (j:=2) Kv a rfl rfl rfl ag a2 ba ?_);intro bc ct de m n a;rw [← bb] at n;replace aa:=Qo (d.1.trans (g.1.trans m.1)) aa;replace ai:=Qo (g.1.trans m.1) ai;refine Yj a (ac.trans (d.trans (g.trans m))) fun fa=>Qw 10 rfl (Qi Vj y) fa ?_;obtain ⟨bd,be⟩:=Kw cp;refine w1 9 rfl (Yq (α := Int) (j:=1) Kv a rfl rfl rfl aa ai bd ?_);intro bg bh dh s t a;rw [← be] at t;replace e:=Bo (d.1.trans (g.1.trans (m.1.trans s.1))) e;replace n:=Qo s.1 n;refine Yj a (ac.trans (d.trans (g.trans (m.trans s)))) fun h6=>?_;refine w1 11 rfl (Z9 5 1 a rfl e rfl rfl (Qt n) (Q8 n) rfl (Jb (rr e) (Lf (Yg (rr e)) (Qt n))) cq ?_);intro di dj ad bi bj a;have dk:=(bi E8).trans ap;have bk:=bj;refine ⟨nB,?_⟩;refine wy 12 rfl (Qi V7 y) nB ?_;refine w1 13 rfl (Z9 5 1 a rfl ad rfl rfl (Qt t) (Q8 t) rfl (Jc (rr ad) (Lf (Y2 (rr ad)) (Qt t))) cs ?_);intro bl dl bm bn bo a;have bp:=(bn E8).trans bk;have bq:=bo;refine ⟨nB,?_⟩;refine wd<|Qe ?_;exact ⟨bh,bl,cr,bc,bg,(d.trans (g.trans (m.trans s))),a,bm,bp,bq,ah,ax,a5,y,a6,a7,aq,b⟩;rintro _ _ ⟨a9,a0,b6,b7,b8,dm,a,fb,fc,fd,fe,ff,fg,fh,fi,fj,fk,b⟩;replace cn:=Zg dm cn;rw [qh3] at b;refine Q7<|Qe ?_;exact ⟨a9,a0,b6,dc,db,am,b7,b8,dm,(Yz a c6),fb,cn,e3,fc,fd,fe,ff,fg,fh,fi,fj,fk,b⟩;rintro _ _ ⟨ay,az,bx,a8,bz,b0,b1,b2,fl,a,fm,fn,fo,fp,fq,fr,fs,ft,fv,fw,fx,fy,b⟩;rw [qfs] at b;refine Q1<|Qa (Zu fy rfl)<|Qa (Qd (Ge (IntKind.wrap .i64 (o+1))) rfl)<|Qj ?_;exact ⟨ay,az,bx,a8,bz,b0,b1,b2,(IntKind.wrap .i64 (o+1)),(cj.trans fl),a,fm,fn,fo,fp,fq,fr,fs,ft,fv,fw,fx,rfl,(by rw [← c5];exact b)⟩;refine Zp<|Qq<|Qq<|Zq<|Qe<|Qu<|Ys [Gk ak ae 33] [] Z6 a fun ib a fz a3=>Qw 0 rfl (Qd _ ah) a3<|Qw 1 rfl (Qd _ ax) a3 ?_;have cv:=(rr e);have f0:sl (sl ae (0) 6) 4 1=[an]:=(Vq E9).trans bw;have f1:sl (sl ae (0) 6) 5 1=[ao]:=(Vq E9).trans ap;refine Y4 2 rfl (Zb zal y (Ym 0 rfl) (Xx cv)) a3<|Qw 3 rfl (Q9 rfl) a3<|Qw 4 rfl (Qi V1 rfl) a3 ?_;obtain ⟨f2,f3,b⟩:=Qn b;refine Qw 5 rfl (Ze Un rfl rfl f2 f3) a3 ?_;obtain ⟨_,dn,b⟩:=Qc b;obtain ⟨_,f4,b⟩:=Qc b;obtain ⟨_,f5,b⟩:=Qc b;have ii:=(Zs dn);refine w1 6 rfl (Z8 5 6 a af cv (Vb (rr af) (vu (k:=6) rfl rfl (Q6 (rr af)) (Lf (vp (k:=6) rfl rfl (Q6 (rr af)) dn) cv) f4)) f5 ?_);intro dp _ a4 f6 dq a;have dr:=(f6 E8).trans ck;have f7:sl dp (0+0+Int.toNat x*6+4) 1=[an]:=V3 dq f0 E9;have f8:sl dp (0+0+Int.toNat x*6+5) 1=[ao]:=V3 dq f1 E9;refine Yj a fz fun ik=>wd<|Qe<|Q1<|Zj ah<|Zj ah<|Qa (Q9 rfl)<|Qa (Qi J9 rfl) ?_;obtain ⟨_,ga,b9⟩:=(K5 (rr a4));rw [Y6 ga dr] at b9;refine Qa (Qh am Z2 rfl (a.bvB 5 rfl) dr)<|Zj ax ?_;refine Ql (Zz (α := Int) (l:=([x]:List Int)) [Ge x] J4 (Y3 rfl Vl) rfl rfl E9 E9 E9 a (Jj (ri x:rep q _ _) Jv) ?_);intro _ _ _ cw gb a;replace b9:=Qo cw.1 b9;obtain ⟨_,gc,ge,b⟩:=Z1 b;refine Ql (Yq (α := Int) (j:=6) Kv a rfl rfl rfl b9 gb gc ?_);intro ds gf _ dt ca a;rw [← ge] at ca;replace a4:=Zg (cw.trans dt) a4;refine Qa (Q9 rfl)<|Qa (Qi J9 rfl) ?_;obtain ⟨_,gg,b⟩:=Qc b;refine Ql (Z9 5 1 a rfl a4 rfl rfl (Qt ca) (Q8 ca) rfl (GNode.u1 (rr a4) (Lf (K5 (rr a4)) (Qt ca))) gg ?_);intro du _ gh dv gi a;have iw:=(dv E8).trans f7;have ix:=(dv E8).trans f8;have gj:=gi;cases b;exact Yk (Xc (zcn rfl  ⟨_,gf,_,rfl,(cj.trans (cw.trans dt)),(a.sel (H':=[Gk h du 37,.row ds 3 1]) [5,6] E9 rfl),du,ds,rfl,rfl,gh,gj⟩))
def qmt (d83:GNode) (l84:List GFrame) (y86:Int):Option (GNode × (List GFrame) × Int) := some (d83,l84,y86)
def qhb (a:Int) (b:GFrame) (c:GEntry) (d:GNode):Option (GNode × (List GFrame) × Int):=(some ({ kind:=2,node:=a,id:=b.id,ops:=Zr.zd,deps:=c.first,at_:=Zr.zd,vals:=Zr.zd }:GFrame)).bind fun e=>(some d).bind fun f=>qmt f ([e]:List GFrame) 0
def qhc (a:GNode) (b:List GFrame):Option (GNode × (List GFrame) × Int):=(some a).bind fun c=>some (c,b,0)
def qhd (d:Int) (e:GFrame) (a:GNode) (b:GFrame) (c:GEntry) (f:Bool):Option (GNode × (List GFrame) × Int):=(bif f then (some ({ kind:=5,node:=d,id:=e.id,ops:=Zr.zd,deps:=Zr.zd,at_:=c.at_,vals:=c.values }:GFrame)).bind fun g=>(app ([b]:List GFrame) ([g]:List GFrame)).bind fun h=>qhc a h else qhc a ([b]:List GFrame))
def qd3 (c:Int) (a:GFrame) (f:Int) (i:GEntry) (d:GNode):Option (GNode × (List GFrame) × Int):=(some ({ kind:=4,node:=c,id:=a.id,ops:=Zr.zd,deps:=Zr.zd,at_:=Zr.zd,vals:=Zr.zd }:GFrame)).bind fun e=>(inR a.id 32).bind fun _=>(qan d.entries a.id).bind fun g=>(some g).bind fun b=>(bif b.state==3 then (some (qag b.ops f)).bind fun h=>qhd c a d e b h else qhd c a d e b false)
def qci (y251:Int) (rec252:GNode→Int→Option (GNode × (List GFrame) × Int)) (d261:GNode):Option (GNode × (List GFrame) × Int) := rec252 d261 (IntKind.wrap .i64 (y251+1))
def qft (y283:Int) (rec284:GNode→Int→Option (GNode × (List GFrame) × Int)) (d293:GNode):Option (GNode × (List GFrame) × Int) := rec284 d293 (IntKind.wrap .i64 (y283+1))
def qbu (fu:Nat) (d:Int) (e:Int) (f:GNode→Int→Option (GNode × (List GFrame) × Int)) (a:(List Int)):Nat→GNode→Int→Option (GNode × (List GFrame) × Int)
 | 0,_,_=>none
 | n+1,b,c=>(bif decide (c<(a.length:Int)) then (idx a c).bind fun g=>(inR g 32).bind fun _=>(qan b.entries g).bind fun h=>(bif h.state==2 then (qi3 fu b g d).bind fun i=>qft c (qbu fu d e f a n) i else qft c (qbu fu d e f a n) b) else qci e f b)
def qba (fu:Nat) (d:Int) (e:GFrame) (b:Int) (f:GEntry) (g:GGraph):Nat→GNode→Int→Option (GNode × (List GFrame) × Int)
 | 0,_,_=>none
 | n+1,c,a=>(bif decide (a<32) then (inR a 32).bind fun _=>(qan c.entries a).bind fun h=>(bif h.state != 2 then qci a (qba fu d e b f g n) c else (qp0 fu g a).bind fun i=>qbu fu b a (qba fu d e b f g n) i fu c 0) else qd3 d e b f c)
def qe8 (fu:Nat) (e:Int) (a:GFrame) (f:Int) (b:GNode) (g:GEntry):Option (GNode × (List GFrame) × Int):=(some ({ g with state:=2 }:GEntry)).bind fun h=>(some ({ h with ops:=a.ops }:GEntry)).bind fun i=>(some ({ i with deps:=a.deps }:GEntry)).bind fun c=>(inR a.id 32).bind fun _=>(qan b.entries a.id).bind fun m=>(qc1 b.entries a.id c).bind fun j=>(some ({ b with entries:=j }:GNode)).bind fun d=>(qtc fu d).bind fun k=>(some k).bind fun l=>qba fu e a f c l fu d 0
def qhe (fu:Nat) (f:GNode) (d:Int) (a:GFrame) (s:GNode):Option (GNode × (List GFrame) × Int):=(some (ofZ d)).bind fun e=>(some f).bind fun h=>(qmp fu f).bind fun i=>(some i).bind fun b=>(inR a.id 32).bind fun _=>(qan b.entries a.id).bind fun j=>(some j).bind fun c=>(bif a.kind==1 then (some (qag a.ops e)).bind fun k=>(bif !k then (some h).bind fun l=>some (l,[],4) else (bif c.state==0 then (qrn fu b a.id a.ops e).bind fun m=>(some ({ state:=1,ops:=a.ops,first:=m,deps:=Zr.zd,at_:=Zr.zd,values:=Zr.zd }:GEntry)).bind fun n=>(some n).bind fun g=>(inR a.id 32).bind fun _=>(qan b.entries a.id).bind fun t=>(qc1 b.entries a.id g).bind fun o=>(some ({ b with entries:=o }:GNode)).bind fun p=>qhb d a g p else qhb d a c b)) else (bif decide (c.state<2) then (bif c.state==0 then (qrn fu b a.id a.ops e).bind fun q=>(some ({ c with first:=q }:GEntry)).bind fun r=>qe8 fu d a e b r else qe8 fu d a e b c) else qd3 d a e c b))
def qfu (fu:Nat) (a:GNode) (b:Int) (c:GFrame) (d:GNode) (e:Bool):Option (GNode × (List GFrame) × Int):=(bif e then (some a).bind fun f=>some (f,[],3) else qhe fu a b c d)
def qjh (fu:Nat) (b:GNode) (c:Int) (a:GFrame) (d:GNode):Option (GNode × (List GFrame) × Int):=(some (qaf a)).bind fun e=>(bif e != 0 then (some b).bind fun f=>some (f,[],e) else (bif a.kind != 1 then qfu fu b c a d (a.kind != 3) else qfu fu b c a d false))
def qc8 (fu:Nat) (a:GNode) (b:Int) (c:GFrame) (d:Bool):Option (GNode × (List GFrame) × Int):=(bif d then (some a).bind fun e=>some (e,[],2) else qjh fu a b c (Zr.zd:GNode))
def qie (fu:Nat) (b:GNode) (a:Int) (c:GFrame):Option (GNode × (List GFrame) × Int):=(qui fu b).bind fun d=>(bif !d then qc8 fu b a c true else (bif decide (a<0) then qc8 fu b a c true else (bif decide (a>5) then qc8 fu b a c true else qc8 fu b a c (c.node != a))))
theorem qmu {ak:Gl} {p:Gl} {x1:GNode} {e:Int} {d:GFrame} {r:GNode × (List GFrame) × Int} (hA:Agree M w) (s:rep M ak x1) (g:rep M p d) (a:qie fu x1 e d=some r) :
    Calls Tryz.prog 50 #[Gf ak,Ge e,Gf p] w (Gives M w (fun M' u=>∃ c0 v1,u= .tuple #[Gf c0,v1,Ge r.2.2]∧rep M' c0 r.1∧repL M' v1 r.2.1)):=by
 refine Zm Tryz.func50 185 fun T hT=>?_;have ii:T 0=Gf ak:=hT 0;have ar:T 1=Ge e:=hT 1;have ij:T 2=Gf p:=hT 2;have b:Gi w M [] w:=Zt hA;rw [qie] at a;refine Qz ?_;refine Ql<|Yr (v:= Gf ak) (cs:=ak) ii rfl b fun h w4 od b=>Ql (Yr (v:= Gf p) (cs:=p) ij rfl b ?_);intro m _ _ b;refine Ql (Zn Xm b ?_);intro n _ _ b;have bv:rep M (Zr.zc GNode) (Zr.zd:GNode):=Zr.zr;refine Qv 2 rfl<|Qj ?_;refine Qp (fun c o=>∃ ap bw bx,Gh w M ap∧Gi w ap [Gk n bw 37,Gk m p 82,Gk h ak 37] o∧rep ap bw bx∧c 1=Ge e∧c 3=Gg h∧c 5=Gg m∧c 6=Gg n∧qjh fu x1 e d bx=some r) ?_ ?_;refine Qp (fun c o=>∃ cp dm,Gh w M cp∧Gi w cp [Gk n (Zr.zc GNode) 37,Gk m p 82,Gk h ak 37] o∧c 1=Ge e∧c 3=Gg h∧c 5=Gg m∧c 6=Gg n∧c 35= .bool dm∧qc8 fu x1 e d dm=some r) ?_ ?_;refine Q1 ?_;have f3:=(rr s);refine Qa (Zb Vk rfl (b.bvB 2 rfl) (Xx f3)) ?_;obtain ⟨f4,ik,a⟩:=Qc a;refine Ql<|Zi (vs:=[Gf (sl ak (0) 201)]) (v:= .bool f4) cb76 (Zl rfl) b (q71 b.agree f3 ik) fun oj b=>Qa (Yb rfl)<|Qa (Qd (.bool (!f4)) rfl) ?_;rcases ic a with ⟨f5,a⟩ | ⟨f5,a⟩<;>rw [f5];refine Qv 13 rfl<|Qj ?_;exact ⟨M,true,(Qb _ _ _),b,ar,rfl,rfl,rfl,rfl,a⟩;refine Qg rfl rfl (Qd _ ar)<|Qg rfl rfl (Zw rfl rfl)<|Qv 2 rfl ?_;rcases ic a with ⟨f6,a⟩ | ⟨f6,a⟩<;>rw [f6];refine Qv 9 rfl<|Qj ?_;exact ⟨M,true,(Qb _ _ _),b,ar,rfl,rfl,rfl,rfl,a⟩;refine Qg rfl rfl (Qd _ ar)<|Qg rfl rfl (Yx rfl rfl)<|Qv 2 rfl ?_;rcases ic a with ⟨f7,a⟩ | ⟨f7,a⟩<;>rw [f7];refine Qv 5 rfl<|Qj ?_;exact ⟨M,true,(Qb _ _ _),b,ar,rfl,rfl,rfl,rfl,a⟩;refine Qg rfl rfl (Qi Kq rfl)<|Qg rfl rfl (Qh (Ge d.node) Z4 rfl (b.bvB 1 rfl) (Y7 (rr g)))<|Qg rfl rfl (Qd _ ar)<|Qg rfl rfl (Yi rfl rfl)<|Qa (Q5 (.bool (d.node != e)) rfl rfl)<|Qj ?_;exact ⟨M,(d.node != e),(Qb _ _ _),b,ar,rfl,rfl,rfl,rfl,a⟩;rintro _ _ ⟨cp,dm,cq,b,il,f8,im,dn,io,a⟩;replace s:=Zg cq s;replace bv:=Zg cq bv;rw [qc8] at a;refine Q4 a io (fun ip a=>?_) fun ip a=>?_;refine Qz ?_;have dp:=(rr s);refine Qa (Zb Vk f8 (b.bvB 2 rfl) (Xx dp)) ?_;obtain ⟨_,iq,a⟩:=Qc a;refine Ql<|Z9 0 201 b rfl bv dn rfl dp rfl rfl (Lf (rr bv) dp) iq fun oo op ga oq os b=>Qv 2 rfl<|Qj ?_;cases a;exact Q2 (V0 (j:=0) rfl dn rfl rfl (Vz Vk ga) b rfl (Zc b cq ⟨_,_,rfl,ga,(Zo _)⟩));refine Qk<|Qe ?_;exact ⟨cp,(Zr.zc GNode),(Zr.zd:GNode),cq,b,bv,il,f8,im,dn,a⟩;rintro _ _ ⟨ap,bw,bx,au,b,av,gb,dq,bz,cr,a⟩;replace s:=Zg au s;replace g:=Zg au g;rw [qjh] at a;refine Qu<|Qz ?_;have gc:=(rr g);refine Qa (Zb Jh bz (b.bvB 1 rfl) (Xx gc)) ?_;obtain ⟨ct,ir,a⟩:=Q0 a;refine Ql<|Zi (vs:=[Gf (sl p (0) 7)]) (v:= Ge ct) zfq (Zl rfl) b (ir ▸ (Xf b.agree gc)) fun ov b=>Qa (Qf (Ge ct) rfl)<|Qj<|Qz<|Qa (Qd (Ge ct) rfl)<|Qa (Yi rfl rfl)<|Qj ?_;refine Q4 a rfl (fun iu a=>?_) fun iu a=>?_;refine Qz ?_;have dr:=(rr s);refine Qa (Zb Vk dq (b.bvB 2 rfl) (Xx dr))<|Qa (Qd (Ge ct) rfl) ?_;obtain ⟨_,iv,a⟩:=Qc a;refine Ql<|Z9 0 201 b rfl av cr rfl dr rfl rfl (Lf (rr av) dr) iv fun ox oy ge oz o0 b=>Qv 2 rfl<|Qj ?_;cases a;exact Q2 (V0 (j:=0) rfl cr rfl rfl (Vz Vk ge) b rfl (Zc b au ⟨_,_,rfl,ge,(Zo _)⟩));refine Qk<|Qe ?_;refine Qp (fun c o=>∃ b0 z ds,Gh w ap b0∧Gi w b0 [Gk n z 37,Gk m p 82,Gk h ak 37] o∧rep b0 z ds∧c 1=Ge e∧c 3=Gg h∧c 5=Gg m∧c 6=Gg n∧qhe fu x1 e d ds=some r) ?_ ?_;refine Qp (fun c o=>∃ cu dt,Gh w ap cu∧Gi w cu [Gk n bw 37,Gk m p 82,Gk h ak 37] o∧c 1=Ge e∧c 3=Gg h∧c 5=Gg m∧c 6=Gg n∧c 50= .bool dt∧qfu fu x1 e d bx dt=some r) ?_ ?_;refine Q1<|Qa (Qi Vf bz)<|Qa (Qh (Ge d.kind) Z4 rfl (b.bvB 1 rfl) (Yf (rr g)))<|Qa (Yi rfl rfl)<|Qa (Qd (.bool (d.kind != 1)) rfl) ?_;rcases ic a with ⟨gf,a⟩ | ⟨gf,a⟩<;>rw [gf];refine Qg rfl rfl (Qi Vf bz)<|Qg rfl rfl (Qh (Ge d.kind) Z4 rfl (b.bvB 1 rfl) (Yf (rr g)))<|Qg rfl rfl (Yi rfl rfl)<|Qa (Zk (.bool (d.kind != 3)) rfl rfl)<|Qj ?_;exact ⟨ap,(d.kind != 3),(Qb _ _ _),b,gb,dq,bz,cr,rfl,a⟩;refine Qv 4 rfl<|Qj ?_;exact ⟨ap,false,(Qb _ _ _),b,gb,dq,bz,cr,rfl,a⟩;rintro _ _ ⟨cu,dt,cv,b,iw,gg,ix,du,iy,a⟩;replace s:=Zg cv s;replace av:=Zg cv av;rw [qfu] at a;refine Q4 a iy (fun iz a=>?_) fun iz a=>?_;refine Qz ?_;have dv:=(rr s);refine Qa (Zb Vk gg (b.bvB 2 rfl) (Xx dv)) ?_;obtain ⟨_,i0,a⟩:=Qc a;refine Ql<|Z9 0 201 b rfl av du rfl dv rfl rfl (Lf (rr av) dv) i0 fun o5 o6 gh o7 o8 b=>Qv 2 rfl<|Qj ?_;cases a;exact Q2 (V0 (j:=0) rfl du rfl rfl (Vz Vk gh) b rfl (Zc b (au.trans cv) ⟨_,_,rfl,gh,(Zo _)⟩));refine Qk<|Qe ?_;exact ⟨cu,bw,bx,cv,b,av,iw,gg,ix,du,a⟩;rintro _ _ ⟨b0,z,ds,b1,b,t,bh,al,af,aw,a⟩;replace s:=Zg b1 s;rw [qhe] at a;refine Qz<|Zj bh ?_;obtain ⟨q,i1,a⟩:=Q0 a;refine Ql<|Zi (vs:=[Ge e]) (v:= Ge q) zeq (Zl rfl) b (i1 ▸ (U8)) fun pb b=>Qa (Qf (Ge q) rfl)<|Qj<|Qz ?_;have dw:=(rr s);refine Qa (Zb Vk al (b.bvB 2 rfl) (Xx dw)) ?_;refine Ql (Zn Xm b ?_);intro ah _ _ b;have gi:rep b0 (Zr.zc GNode) (Zr.zd:GNode):=Zr.zr;obtain ⟨_,i2,a⟩:=Qc a;refine Ql (Z8 0 201 b gi dw (Lf (rr gi) dw) i2 ?_);intro ai _ dx _ _ b;refine Qj<|Qz ?_;have gj:=(rr s);refine Qa (Zb Vk al (b.bvB 3 rfl) (Xx gj)) ?_;obtain ⟨i3,i4,a⟩:=Qc a;refine Ql (Yo (vs:=[Gf (sl ak (0) 201)]) (L:=[]) (R:=[Gk ah ai 37,Gk n z 37,Gk m p 82,Gk h ak 37]) (rv:=(fun M' u L'=>∃ c0 uR,u=Gf c0∧L'=[.row uR 3 1]∧rep M' c0 i3∧sl c0 192 1=[uR])) cb77 (Zl rfl) b (b.sel [0,1,2,3] E9 rfl) (fun b=>q2n b.agree gj i4) ?_);rintro _ ax _ _ ay ⟨_,uR_42,rfl,i5,gk,i6⟩ b;replace b:=b _ i5;replace s:=Zg ay s;replace g:=Zg (b1.trans ay) g;replace t:=Zg ay t;replace dx:=Zg ay dx;obtain ⟨dz,i7,a⟩:=Qc a;refine Ql (Z9 4 201 b rfl s al rfl gk rfl rfl (Lf (rr s) gk) i7 ?_);intro an _ y _ i8 b;have bi:sl an (0+192) 1=[uR_42]:=V3 i8 i6 E9;refine Qj<|Qz<|Qa (Qi Yw af)<|Qa (Qh (Ge d.id) Z4 rfl (b.bvB 3 rfl) (Z3 (rr g)))<|Qa (Qi V1 al) ?_;obtain ⟨i9,ja,a⟩:=Qn a;refine Qa (Ze Un rfl rfl i9 ja) ?_;obtain ⟨_,jb,a⟩:=Qc a;have d0:=(vp (k:=6) rfl rfl (Q6 (rr y)) jb);refine Qa (Zb zal rfl (b.bvB 4 rfl) (Xx d0)) ?_;refine Ql (Zn q9i b ?_);intro aa _ _ b;have gl:rep ax (Zr.zc GEntry) (Zr.zd:GEntry):=Zr.zr;obtain ⟨bj,jc,a⟩:=Qc a;refine Ql (Z8 0 6 b gl d0 (Lf (rr gl) d0) jc ?_);intro d1 _ ab _ _ b;refine Qj<|Qu<|Qz<|Qa (Qi Vf af)<|Qa (Qh (Ge d.kind) Z4 rfl (b.bvB 4 rfl) (Yf (rr g)))<|Qa (Z5 rfl rfl)<|Qj ?_;refine Q4 a rfl (fun jd a=>?_) fun jd a=>?_;refine Qu<|Qz<|Qa (Qi V6 af) ?_;obtain ⟨gm,je,jf⟩:=(Y1 (rr g));refine Qa (Qh gm Y9 rfl (b.bvB 4 rfl) je)<|Qa (Qd (Ge q) rfl) ?_;obtain ⟨jg,jh,a⟩:=Q0 a;refine Ql<|Zi (vs:=[gm,Ge q]) (v:= .bool jg) zbm (Ya rfl rfl) b (jh ▸ (Kd b.agree jf)) fun pw b=>Qa (Yb rfl)<|Qj ?_;refine Q4 a rfl (fun ji a=>?_) fun ji a=>?_;refine Qz ?_;have d2:=(rr dx);refine Qa (Zb Vk rfl (b.bvB 2 rfl) (Xx d2)) ?_;obtain ⟨_,jj,a⟩:=Qc a;refine Ql<|Z9 3 201 b rfl t aw rfl d2 rfl rfl (Lf (rr t) d2) jj fun py pz gn p0 p1 b=>Qv 2 rfl<|Qj ?_;cases a;exact Q2 (V0 (j:=3) rfl aw rfl rfl (Vz Vk gn) b rfl (Zc b (au.trans (b1.trans ay)) ⟨_,_,rfl,gn,(Zo _)⟩));refine Qk<|Qe ?_;refine Qp (fun c o=>∃ ac b2 cw az d3 a0,Gh w ax ac∧Gi w ac [Gk aa b2 33,.row a0 3 1,Gk ah ai 37,Gk n z 37,Gk m p 82,Gk h az 37] o∧rep ac b2 cw∧rep ac az d3∧sl az (0+192) 1=[a0]∧c 1=Ge e∧c 3=Gg h∧c 5=Gg m∧c 6=Gg n∧c 12=Gg aa∧qhb e d cw d3=some r) ?_ ?_;refine Qz<|Qa (Qi Y0 rfl)<|Qa (Qh (Ge bj.state) Z4 rfl (b.bvB 0 rfl) (Z7 (rr ab)))<|Qa (Z5 rfl rfl)<|Qj ?_;refine Q4 a rfl (fun jk a=>?_) fun jk a=>?_;refine Qu<|Ys [Gk m p 82,Gk h an 37] [] Z6 b fun p2 b go aq=>Qw 0 rfl (Qi V6 af) aq ?_;obtain ⟨d4,jl,b3⟩:=(Y1 (rr g));refine Y4 1 rfl (Qh d4 Y9 rfl (Ym 0 rfl) jl) aq ?_;have gp:=(rr y);have p3:sl (sl an (0) 201) 192 1=[uR_42]:=(Vq E9).trans bi;refine Y4 2 rfl (Zb Vk al (Ym 1 rfl) (Xx gp)) aq<|Qw 3 rfl (Qi Yw af) aq<|Y4 4 rfl (Qh (Ge d.id) Z4 rfl (Ym 0 rfl) (Z3 (rr g))) aq<|Qw 5 rfl (Qi V6 af) aq ?_;obtain ⟨gq,jm,jn⟩:=(Y1 (rr g));refine Y4 6 rfl (Qh gq Y9 rfl (Ym 0 rfl) jm) aq<|Qw 7 rfl (Qd (Ge q) rfl) aq ?_;obtain ⟨d5,jo,a⟩:=Qc a;refine w1 8 rfl (Yh (vs:=[Gf (sl an (0) 201),Ge d.id,gq,Ge q]) (rv:=(fun M' u=>repL M' u d5)) cb78 (q6n rfl rfl rfl rfl) b (q0e b.agree gp jn jo) ?_);intro d6 a1 _ a2 jp b;have d7:repL a1 d6 d5:=jp;replace g:=Zg a2 g;replace y:=Zg a2 y;replace ab:=Zg a2 ab;replace b3:=Qo a2.1 b3;refine Yj b (go.trans a2) fun jq=>?_;have gr:=GEntry.w0 (Zr.zr:rep a1 (Zr.zc GEntry) (Zr.zd:GEntry)) (ri 1:rep a1 _ _);have gs:=GEntry.w1 gr (Qt b3);have jr:=GEntry.w2 gs (Qt d7);obtain ⟨js,jt,a⟩:=Qc a;obtain ⟨_,ju,gt⟩:∃ cs,qay (([(0,1),(1,1),(2,1),(3,1),(4,1),(5,1)]:List (Nat × Nat))[·]?) (Zr.zc GEntry) [(0,Ge 1),(1,d4),(2,d6)]=some cs∧rep a1 cs js:=⟨_,(Zf (Zr.zr:rep a1 (Zr.zc GEntry) (Zr.zd:GEntry)) rfl rfl (Xx (ri 1:rep a1 _ _)) E9 (Zf gr rfl (Q8 b3) (Xx (Qt b3)) E9 (Zf gs rfl (Q8 d7) (Xx (Qt d7)) E9 Yd))),Ye (x:=({ state:=1,ops:=d.ops,first:=d5,deps:=Zr.zd,at_:=Zr.zd,values:=Zr.zd }:GEntry)) jr jt⟩
 refine Qw 9 rfl (Z0 [(0,Ge 1),(1,d4),(2,d6)] zgt (Y3 rfl (Y3 rfl (Y3 rfl Vl))) ju) jq ?_;obtain ⟨jv,jw,a⟩:=Qc a;refine w1 10 rfl (Z8 0 6 b ab gt (Lf (rr ab) gt) jw ?_);intro jx _ gu _ _ b;refine Yj b (go.trans a2) fun p9=>wd<|Qe<|Q1<|Qa (Qi Yw af)<|Qa (Qh (Ge d.id) Z4 rfl (b.bvB 4 rfl) (Z3 (rr g))) ?_;have d8:=(rr gu);refine Qa (Zb zal rfl (b.bvB 0 rfl) (Xx d8))<|Qa (Qi V1 al) ?_;obtain ⟨jy,jz,a⟩:=Qn a;refine Qa (Ze Un rfl rfl jy jz) ?_;obtain ⟨_,gv,a⟩:=Qc a;obtain ⟨_,j0,a⟩:=Qc a;obtain ⟨j1,j2,a⟩:=Qc a;have qc:=(Zs gv);refine Ql (Z8 5 6 b y d8 (Vb (rr y) (vu (k:=6) rfl rfl (Q6 (rr y)) (Lf (vp (k:=6) rfl rfl (Q6 (rr y)) gv) d8) j0)) j2 ?_);intro j3 _ j4 j5 _ b;have j6:=(j5 E8).trans bi;refine Qj ?_;exact ⟨a1,jx,jv,j3,j1,uR_42,a2,b,gu,j4,j6,bh,al,af,aw,rfl,a⟩;refine Qk<|Qe ?_;exact ⟨ax,d1,bj,an,dz,uR_42,(Qb _ _ _),b,ab,y,bi,bh,al,af,aw,rfl,a⟩;rintro _ _ ⟨ac,b2,cw,az,d3,a0,d9,b,j7,j8,j9,ka,kb,kc,cx,kd,a⟩;replace g:=Zg d9 g;replace t:=Zg d9 t;rw [qhb] at a;refine Qp (fun c o=>∃ b4 ea eb ec ed ee,Gh w ac b4∧Gi w b4 [Gk aa b2 33,.row a0 3 1,Gk ah ai 37,Gk n ea 37,Gk m p 82,Gk h az 37] o∧rep b4 ea eb∧repL b4 ec ed∧c 6=Gg n∧c 7=ec∧c 8=Ge ee∧qmt eb ed ee=some r) ?_ ?_;refine Ys [Gk aa b2 33,Gk m p 82,Gk h az 37] [] Z6 b fun qh b cy a3=>?_;have a4:=(rr j8);have gw:sl (sl az (0) 201) 192 1=[a0]:=(Vq E9).trans j9;refine Y4 0 rfl (Zb Vk kb (Ym 2 rfl) (Xx a4)) a3<|Qw 1 rfl (Qd _ ka) a3<|Qw 2 rfl (Qi Yw kc) a3<|Y4 3 rfl (Qh (Ge d.id) Z4 rfl (Ym 1 rfl) (Z3 (rr g))) a3<|Qw 4 rfl (Qi J1 kd) a3 ?_;obtain ⟨ef,ke,eg⟩:=(V2 (rr j7));refine Y4 5 rfl (Qh ef Z2 rfl (Ym 0 rfl) ke) a3 ?_;have gx:=Ka (Zr.zr:rep ac (Zr.zc GFrame) (Zr.zd:GFrame)) (ri 2:rep ac _ _);have gy:=Kb gx (ri e:rep ac _ _);have gz:=Kc gy (ri d.id:rep ac _ _);have kf:=Xk gz (Qt eg);obtain ⟨b6,kg,a⟩:=Qc a;obtain ⟨g1,kh,g2⟩:∃ cs,qay (([(0,1),(1,1),(2,1),(3,1),(4,1),(5,1),(6,1)]:List (Nat × Nat))[·]?) (Zr.zc GFrame) [(0,Ge 2),(1,Ge e),(2,Ge d.id),(4,ef)]=some cs∧rep ac cs b6:=⟨_,(Zf (Zr.zr:rep ac (Zr.zc GFrame) (Zr.zd:GFrame)) rfl rfl (Xx (ri 2:rep ac _ _)) E9 (Zf gx rfl rfl (Xx (ri e:rep ac _ _)) E9 (Zf gy rfl rfl (Xx (ri d.id:rep ac _ _)) E9 (Zf gz rfl (Q8 eg) (Xx (Qt eg)) E9 Yd)))),Ye (x:=({ kind:=2,node:=e,id:=d.id,ops:=Zr.zd,deps:=cw.first,at_:=Zr.zd,vals:=Zr.zd }:GFrame)) kf kg⟩
 refine Qw 6 rfl (Z0 [(0,Ge 2),(1,Ge e),(2,Ge d.id),(4,ef)] Xj (Y3 rfl (Y3 rfl (Y3 rfl (Y3 rfl Vl)))) kh) a3 ?_;obtain ⟨g3,g4,a⟩:=Qc a;refine Ua (i:=7) (j:=8) Ga rfl rfl (Zz (α := GFrame) (l:=([b6]:List GFrame)) [Gf g1] q8y (Y3 rfl Vl) rfl rfl E9 E9 E9 b (Jj g2 Jv) ?_) (Z9 3 201 b rfl t cx rfl a4 rfl rfl (Lf (rr t) a4) g4 ?_);intro b8 eh ki ao ei b;replace t:=Zg ao t;replace a4:=Zg ao a4;refine Yj b (cy.trans ao) fun qi=>?_;refine w1 8 rfl (Z9 3 201 b rfl t cx rfl a4 rfl rfl (Lf (rr t) a4) g4 ?_);intro ca kj cb kk ej b;have kl:sl ca (0+192) 1=[a0]:=V3 ej gw E9;refine Yj b (cy.trans ao) fun g5=>Qw 9 rfl (Qf (b8) rfl) g5<|Qw 10 rfl (Qf (Ge 0) rfl) g5<|wd<|Qe ?_;exact ⟨eh,ca,g3,b8,([b6]:List GFrame),(0:Int),ao,b,cb,ei,cx,rfl,rfl,a⟩;intro ca kj cb kk ej b;have kl:sl ca (0+192) 1=[a0]:=V3 ej gw E9;refine Yj b cy fun qj=>?_;refine w1 7 rfl (Zz (α := GFrame) (l:=([b6]:List GFrame)) [Gf g1] q8y (Y3 rfl Vl) rfl rfl E9 E9 E9 b (Jj g2 Jv) ?_);intro b8 eh ki ao ei b;replace cb:=Zg ao cb;refine Yj b (cy.trans ao) fun g6=>Qw 9 rfl (Qf (b8) rfl) g6<|Qw 10 rfl (Qf (Ge 0) rfl) g6<|wd<|Qe ?_;exact ⟨eh,ca,g3,b8,([b6]:List GFrame),(0:Int),ao,b,cb,ei,cx,rfl,rfl,a⟩;rintro _ _ ⟨b4,ea,eb,ec,ed,ee,km,b,g7,kn,ko,kp,kq,a⟩;rw [qmt] at a;cases a;exact Q2 (V0 (j:=3) rfl ko kp kq (Vz Vk g7) b rfl (Zc b (au.trans (b1.trans (ay.trans (d9.trans km)))) ⟨_,_,rfl,g7,kn⟩));refine Qk<|Qe ?_;refine Qp (fun c o=>∃ ag cc ek a5 cd a6,Gh w ax ag∧Gi w ag [Gk aa cc 33,.row a6 3 1,Gk ah ai 37,Gk n z 37,Gk m p 82,Gk h a5 37] o∧rep ag cc ek∧rep ag a5 cd∧sl a5 (0+192) 1=[a6]∧c 1=Ge e∧c 3=Gg h∧c 5=Gg m∧c 6=Gg n∧c 10=Ge q∧qd3 e d q ek cd=some r) ?_ ?_;refine Qz<|Qa (Qi Y0 rfl)<|Qa (Qh (Ge bj.state) Z4 rfl (b.bvB 0 rfl) (Z7 (rr ab)))<|Qa (Zw rfl rfl)<|Qj ?_;refine Q4 a rfl (fun kr a=>?_) fun kr a=>?_;refine Qp (fun c o=>∃ bk el em,Gh w ax bk∧Gi w bk [Gk aa el 33,.row uR_42 3 1,Gk ah ai 37,Gk n z 37,Gk m p 82,Gk h an 37] o∧rep bk el em∧c 1=Ge e∧c 3=Gg h∧c 5=Gg m∧c 6=Gg n∧c 10=Ge q∧c 12=Gg aa∧qe8 fu e d q dz em=some r) ?_ ?_;refine Qz<|Qa (Qi Y0 rfl)<|Qa (Qh (Ge bj.state) Z4 rfl (b.bvB 0 rfl) (Z7 (rr ab)))<|Qa (Z5 rfl rfl)<|Qj ?_;refine Q4 a rfl (fun ks a=>?_) fun ks a=>?_;refine Q1 ?_;have g8:=(rr y);have qm:sl (sl an (0) 201) 192 1=[uR_42]:=(Vq E9).trans bi;refine Qa (Zb Vk al (b.bvB 5 rfl) (Xx g8))<|Qa (Qi Yw af)<|Qa (Qh (Ge d.id) Z4 rfl (b.bvB 4 rfl) (Z3 (rr g)))<|Qa (Qi V6 af) ?_;obtain ⟨g9,kt,ku⟩:=(Y1 (rr g));refine Qa (Qh g9 Y9 rfl (b.bvB 4 rfl) kt)<|Qa (Qd (Ge q) rfl) ?_;obtain ⟨ha,kv,a⟩:=Qc a;refine Ql (Yh (vs:=[Gf (sl an (0) 201),Ge d.id,g9,Ge q]) (rv:=(fun M' u=>repL M' u ha)) cb78 (q6n rfl rfl rfl rfl) b (q0e b.agree g8 ku kv) ?_);intro kw hb _ hc kx b;have en:repL hb kw ha:=kx;replace ab:=Zg hc ab;refine Qa (Qi J1 rfl) ?_;obtain ⟨ky,kz,a⟩:=Qc a;refine Ql<|Z9 0 1 b rfl ab rfl rfl (Qt en) (Q8 en) rfl (GEntry.u2 (rr ab) (Lf (V2 (rr ab)) (Qt en))) kz fun k1 qo k2 qp qq b=>Qj ?_;exact ⟨hb,k1,ky,hc,b,k2,bh,al,af,aw,rfl,rfl,a⟩;refine Qk<|Qe ?_;exact ⟨ax,d1,bj,(Qb _ _ _),b,ab,bh,al,af,aw,rfl,rfl,a⟩;rintro _ _ ⟨bk,el,em,eo,b,ep,k3,er,c1,k4,k5,c2,a⟩;replace g:=Zg eo g;replace y:=Zg eo y;rw [qe8] at a;refine Qu<|Ys [Gk m p 82] [] Z6 b fun qt b es ce=>Qw 0 rfl (Qi V6 c1) ce ?_;obtain ⟨k6,k7,et⟩:=(Y1 (rr g));refine Y4 1 rfl (Qh k6 Y9 rfl (Ym 0 rfl) k7) ce<|Qw 2 rfl (Qi Vv c1) ce ?_;obtain ⟨k8,k9,eu⟩:=(Yl (rr g));refine Y4 3 rfl (Qh k8 Z2 rfl (Ym 0 rfl) k9) ce<|Qw 4 rfl (Qi Y0 c2) ce ?_;obtain ⟨_,la,a⟩:=Qc a;refine w1 5 rfl (Z8 0 1 b ep (ri 2:rep bk _ _) (Xn (rr ep) (Lf (Z7 (rr ep)) (ri 2:rep bk _ _))) la ?_);intro _ _ ev _ _ b;refine Yj b es fun lb=>Qw 6 rfl (Qi K2 c2) lb ?_;obtain ⟨_,lc,a⟩:=Qc a;refine w1 7 rfl<|Z9 0 1 b rfl ev rfl rfl (Qt et) (Q8 et) rfl (GEntry.u1 (rr ev) (Lf (Vi (rr ev)) (Qt et))) lc fun q0 q1 ew q2 q3 b=>Yj b es fun ld=>Qw 8 rfl (Qi Jm c2) ld ?_;obtain ⟨ex,lf,a⟩:=Qc a;refine w1 9 rfl<|Z9 0 1 b rfl ew rfl rfl (Qt eu) (Q8 eu) rfl (GEntry.u3 (rr ew) (Lf (Vs (rr ew)) (Qt eu))) lf fun a7 q4 bl q5 q6 b=>Yj b es fun q7=>wd<|Qe<|Qz<|Qa (Qi Yw c1)<|Qa (Qh (Ge d.id) Z4 rfl (b.bvB 4 rfl) (Z3 (rr g))) ?_;have ey:=(rr bl);refine Qa (Zb zal c2 (b.bvB 0 rfl) (Xx ey))<|Qa (Qi V1 er) ?_;obtain ⟨lg,lh,a⟩:=Qn a;refine Qa (Ze Un rfl rfl lg lh) ?_;obtain ⟨_,hd,a⟩:=Qc a;obtain ⟨_,li,a⟩:=Qc a;obtain ⟨lj,lk,a⟩:=Qc a;have ra:=(Zs hd);refine Ql (Z8 5 6 b y ey (Vb (rr y) (vu (k:=6) rfl rfl (Q6 (rr y)) (Lf (vp (k:=6) rfl rfl (Q6 (rr y)) hd) ey) li)) lk ?_);intro ez _ c3 ll _ b;have he:=(ll E8).trans bi;refine Qj<|Qz ?_;have hf:=(rr c3);have re:sl (sl ez (0) 201) 192 1=[uR_42]:=(Vq E9).trans he;refine Qa (Zb Vk er (b.bvB 5 rfl) (Xx hf)) ?_;obtain ⟨lm,ln,a⟩:=Qc a;refine Ql (Yh (vs:=[Gf (sl ez (0) 201)]) (rv:=(fun M' u=>∃ cs,u=Gf cs∧rep M' cs lm)) cb79 (Zl rfl) b (q5i b.agree hf ln) ?_);intro _ e0 _ e1 lo b;obtain ⟨_,lp,hg⟩:=lo;subst lp;replace bl:=Zg e1 bl;replace c3:=Zg e1 c3;refine Ql (Zn q4y b ?_);intro am _ lq b;have hh:rep e0 (Zr.zc GGraph) (Zr.zd:GGraph):=Zr.zr;obtain ⟨hi,lr,a⟩:=Qc a;refine Ql (Z8 0 64 b hh hg (Lf (rr hh) hg) lr ?_);intro a8 _ e2 _ _ b;refine Qj<|Qz<|Qa (Qd (Ge 0) rfl)<|Qj<|Qs ?_;refine Zy (fun e3 c o=>∃ a9 ba bm bn ad,Gh w e0 a9∧Gi w a9 [Gk am a8 128,Gk aa a7 33,.row bn 3 1,Gk ah ai 37,Gk n z 37,Gk m p 82,Gk h ba 37] o∧rep a9 ba bm∧sl ba (0+192) 1=[bn]∧c 1=Ge e∧c 3=Gg h∧c 5=Gg m∧c 6=Gg n∧c 10=Ge q∧c 13=Gg am∧c 125=Ge ad∧qba fu e d q ex hi e3 bm ad=some r) fu ?_ ?_ ?_;exact ⟨e0,ez,lj,uR_42,(0:Int),(Qb _ _ _),b,c3,he,k3,er,c1,k4,k5,rfl,rfl,a⟩;rintro c o ⟨_,_,_,_,_,_,_,_,_,_,_,_,_,_,_,_,a⟩;rw [qba] at a;cases a;intro e3;rintro _ _ ⟨a9,ba,bm,bn,ad,c4,b,bo,e4,e5,c5,e6,e7,e8,e9,c6,a⟩;replace bl:=Zg c4 bl;replace e2:=Zg c4 e2;rw [qba] at a;obtain ⟨fa,hj⟩:∃ f,f=qba fu e d q ex hi e3:=⟨_,rfl⟩;rw [← hj] at a;refine Qz<|Qa (Zw c6 rfl)<|Qj<|Qu ?_;refine Q4 a rfl (fun ls a=>?_) fun ls a=>?_;refine Qk<|Qe ?_;refine Qp (fun c o=>∃ cf cg c7 c8,Gh w a9 cf∧Gi w cf [Gk am a8 128,Gk aa a7 33,.row c8 3 1,Gk ah ai 37,Gk n z 37,Gk m p 82,Gk h cg 37] o∧rep cf cg c7∧sl cg (0+192) 1=[c8]∧c 1=Ge e∧c 3=Gg h∧c 5=Gg m∧c 6=Gg n∧c 10=Ge q∧c 13=Gg am∧c 125=Ge ad∧qci ad fa c7=some r) ?_ ?_;refine Qs<|Qz<|Zj c6<|Qa (Qf (Ge ad) rfl)<|Qj<|Qu<|Qz<|Qa (Qd (Ge ad) rfl)<|Qa (Qi V1 c5) ?_;obtain ⟨lu,lv,a⟩:=Qn a;refine Qa (Ze Un rfl rfl lu lv)<|Qa (Qi Y0 rfl) ?_;obtain ⟨lw,lx,a⟩:=Qc a;refine Qa (Qh (Ge lw.state) Z4 rfl (b.bvB 6 rfl) (Z7 (vp (k:=6) rfl rfl (Q6 (rr bo)) lx)))<|Qa (Yi rfl rfl)<|Qj ?_;refine Q4 a rfl (fun ly a=>?_) fun ly a=>?_;refine Zp<|Qq<|Zq<|Qe ?_;exact ⟨a9,ba,bm,bn,(Qb _ _ _),b,bo,e4,e5,c5,e6,e7,e8,e9,c6,a⟩;refine Qk<|Qe<|Qz ?_;have hk:=(rr e2);refine Qa (Zb Ur e9 (b.bvB 0 rfl) (Xx hk))<|Qa (Qd (Ge ad) rfl) ?_;obtain ⟨bp,lz,a⟩:=Qc a;refine Ql (Yh (vs:=[Gf (sl a8 (0) 64),Ge ad]) (rv:=(fun M' u=>repL M' u bp)) cb80 (Ya rfl rfl) b (q46 b.agree hk lz) ?_);intro fb fc _ hl l0 b;have c9:repL fc fb bp:=l0;replace bo:=Zg hl bo;obtain ⟨_,_,l1,_⟩:=Qy c9;refine Qa (Zh Qm (Vr l1 rfl))<|Qa (Qd (Ge 0) rfl)<|Qj<|Qs ?_;refine Zy (fun fd c o=>∃ bb bc ch bq bd,Gh w fc bb∧Gi w bb [Gk am a8 128,Gk aa a7 33,.row bq 3 1,Gk ah ai 37,Gk n z 37,Gk m p 82,Gk h bc 37] o∧rep bb bc ch∧sl bc (0+192) 1=[bq]∧c 1=Ge e∧c 3=Gg h∧c 5=Gg m∧c 6=Gg n∧c 10=Ge q∧c 13=Gg am∧c 125=Ge ad∧c 136=fb∧c 137=Ge (bp.length:Int)∧c 138=Ge bd∧qbu fu q ad fa bp fd ch bd=some r) fu ?_ ?_ ?_;exact ⟨fc,ba,bm,bn,(0:Int),(Qb _ _ _),b,bo,e4,e5,c5,e6,e7,e8,e9,c6,rfl,rfl,rfl,a⟩;rintro c o ⟨_,_,_,_,_,_,_,_,_,_,_,_,_,_,_,_,_,_,_,a⟩;rw [qbu] at a;cases a;intro fd;rintro _ _ ⟨bb,bc,ch,bq,bd,fe,b,da,ff,fg,ci,fh,fi,db,fj,fk,fl,fm,dc,a⟩;replace c9:=Qo fe.1 c9;rw [qbu] at a;obtain ⟨l2,hm⟩:∃ f,f=qbu fu q ad fa bp fd:=⟨_,rfl⟩;rw [← hm] at a;refine Qz<|Qa (Zw dc fm)<|Qj<|Qu ?_;refine Q4 a rfl (fun l3 a=>?_) fun l3 a=>?_;refine Qk<|Qe ?_;refine Qp (fun c o=>∃ cj ck dd de,Gh w bb cj∧Gi w cj [Gk am a8 128,Gk aa a7 33,.row de 3 1,Gk ah ai 37,Gk n z 37,Gk m p 82,Gk h ck 37] o∧rep cj ck dd∧sl ck (0+192) 1=[de]∧c 1=Ge e∧c 3=Gg h∧c 5=Gg m∧c 6=Gg n∧c 10=Ge q∧c 13=Gg am∧c 125=Ge ad∧c 136=fb∧c 137=Ge (bp.length:Int)∧c 138=Ge bd∧qft bd l2 dd=some r) ?_ ?_;refine Qs<|Qz ?_;obtain ⟨cl,_,_,_,_,l4,l5,l6,l7,l8,a⟩:=Yc 1 c9 a;refine Qa (Yp Ks fl l4 dc l5 l6)<|Qa (Qh (Ge cl) Z4 rfl (b.bvM l7) l8)<|Qa (Qf (Ge cl) rfl)<|Qj<|Qz<|Qa (Qd (Ge cl) rfl)<|Qa (Qi V1 ci) ?_;obtain ⟨l9,ma,a⟩:=Qn a;refine Qa (Ze Un rfl rfl l9 ma)<|Qa (Qi Y0 rfl) ?_;obtain ⟨mb,mc,a⟩:=Qc a;refine Qa (Qh (Ge mb.state) Z4 rfl (b.bvB 6 rfl) (Z7 (vp (k:=6) rfl rfl (Q6 (rr da)) mc)))<|Qa (Z5 rfl rfl)<|Qj ?_;refine Q4 a rfl (fun md a=>?_) fun md a=>?_;refine Q1<|Qa (Qd (Ge cl) rfl)<|Zj db ?_;obtain ⟨hn,me,a⟩:=Qc a;refine Ql (Yo (vs:=[Gg h,Ge cl,Ge q]) (L:=[Gk h bc 37,.row bq 3 1]) (R:=[Gk am a8 128,Gk aa a7 33,Gk ah ai 37,Gk n z 37,Gk m p 82]) (rv:=(fun M' u L'=>∃ k0 u1,u= .tuple #[]∧L'=[Gk h k0 37,.row u1 3 1]∧rep M' k0 hn∧sl k0 192 1=[u1])) cb81 (Jq ci rfl rfl) b (b.sel [6,2,0,1,3,4,5] E9 rfl) (fun b=>qyg b da ff me) ?_);rintro _ mf _ _ mg ⟨hp,hq,rfl,mh,mi,mj⟩ b;replace b:=b _ mh;refine Yk<|Q7<|Qe ?_;exact ⟨mf,hp,hn,hq,mg,(b.sel (H':=[Gk am a8 128,Gk aa a7 33,.row hq 3 1,Gk ah ai 37,Gk n z 37,Gk m p 82,Gk h hp 37]) [2,3,1,4,5,6,0] E9 rfl),mi,mj,fg,ci,fh,fi,db,fj,fk,fl,fm,dc,a⟩;refine Qk<|Q7<|Qe ?_;exact ⟨bb,bc,ch,bq,(Qb _ _ _),b,da,ff,fg,ci,fh,fi,db,fj,fk,fl,fm,dc,a⟩;rintro _ _ ⟨cj,ck,dd,de,mk,b,ml,mm,mn,mo,mp,mq,mr,ms,mt,mu,mv,mw,a⟩;rw [qft] at a;refine Q1<|Qa (Zu mw rfl)<|Qa (Qd (Ge (IntKind.wrap .i64 (bd+1))) rfl)<|Qj ?_;exact ⟨cj,ck,dd,de,(IntKind.wrap .i64 (bd+1)),(fe.trans mk),b,ml,mm,mn,mo,mp,mq,mr,ms,mt,mu,mv,rfl,(by rw [← hm];exact a)⟩;refine Zp<|Qq<|Qq<|Zq<|Q7<|Qe ?_;exact ⟨bb,bc,ch,bq,(hl.trans fe),b,da,ff,fg,ci,fh,fi,db,fj,fk,a⟩;rintro _ _ ⟨cf,cg,c7,c8,mx,b,my,mz,m0,m1,m2,m3,m4,m5,m6,a⟩;rw [qci] at a;refine Q1<|Qa (Zu m6 rfl)<|Qa (Qd (Ge (IntKind.wrap .i64 (ad+1))) rfl)<|Qj ?_;exact ⟨cf,cg,c7,c8,(IntKind.wrap .i64 (ad+1)),(c4.trans mx),b,my,mz,m0,m1,m2,m3,m4,m5,rfl,(by rw [← hj];exact a)⟩;refine Zp<|Qq<|Qq<|Zq<|Qe ?_;exact ⟨a9,a7,ex,ba,bm,bn,(eo.trans (e1.trans c4)),(Yz b lq),bl,bo,e4,e5,c5,e6,e7,e8,a⟩;refine Qk<|Qe ?_;exact ⟨ax,d1,bj,an,dz,uR_42,(Qb _ _ _),b,ab,y,bi,bh,al,af,aw,rfl,a⟩;rintro _ _ ⟨ag,cc,ek,a5,cd,a6,fo,b,_,br,m7,fp,fq,df,hr,m8,a⟩;replace g:=Zg fo g;rw [qd3] at a;refine Qz<|Zj fp<|Qa (Qi Yw df)<|Qa (Qh (Ge d.id) Z4 rfl (b.bvB 4 rfl) (Z3 (rr g))) ?_;have hs:=Ka (Zr.zr:rep ag (Zr.zc GFrame) (Zr.zd:GFrame)) (ri 4:rep ag _ _);have ht:=Kb hs (ri e:rep ag _ _);have m9:=Kc ht (ri d.id:rep ag _ _);obtain ⟨dg,na,a⟩:=Qc a;obtain ⟨nb,nc,nd⟩:∃ cs,qay (([(0,1),(1,1),(2,1),(3,1),(4,1),(5,1),(6,1)]:List (Nat × Nat))[·]?) (Zr.zc GFrame) [(0,Ge 4),(1,Ge e),(2,Ge d.id)]=some cs∧rep ag cs dg:=⟨_,(Zf (Zr.zr:rep ag (Zr.zc GFrame) (Zr.zd:GFrame)) rfl rfl (Xx (ri 4:rep ag _ _)) E9 (Zf hs rfl rfl (Xx (ri e:rep ag _ _)) E9 (Zf ht rfl rfl (Xx (ri d.id:rep ag _ _)) E9 Yd))),Ye (x:=({ kind:=4,node:=e,id:=d.id,ops:=Zr.zd,deps:=Zr.zd,at_:=Zr.zd,vals:=Zr.zd }:GFrame)) m9 na⟩;refine Qa (Z0 [(0,Ge 4),(1,Ge e),(2,Ge d.id)] Xj (Y3 rfl (Y3 rfl (Y3 rfl Vl))) nc) ?_;refine Ql (qtn (α := GFrame) (l:=([dg]:List GFrame)) [Gf nb] q9n (Y3 rfl Vl) rfl rfl E9 E9 E9 b (Jj nd Jv) ?_);intro dh cm _ di bs b;replace g:=Zg di g;replace t:=Zg (fo.trans di) t;replace br:=Zg di br;refine Qa (Qf (dh) rfl)<|Qj ?_;refine Qp (fun c o=>∃ dj dk fr,Gh w cm dj∧Gi w dj [.row dk 82 7,Gk aa cc 33,.row a6 3 1,Gk ah ai 37,Gk n z 37,Gk m p 82,Gk h a5 37] o∧repL dj dk fr∧c 3=Gg h∧c 6=Gg n∧c 17=dk∧qhc cd fr=some r) ?_ ?_;refine Qz<|Qa (Qi Yw df)<|Qa (Qh (Ge d.id) Z4 rfl (b.bvB 5 rfl) (Z3 (rr g)))<|Qa (Qi V1 fq) ?_;obtain ⟨nf,ng,a⟩:=Qn a;refine Qa (Ze Un rfl rfl nf ng) ?_;obtain ⟨_,nh,a⟩:=Qc a;have fs:=(vp (k:=6) rfl rfl (Q6 (rr br)) nh);refine Qa (Zb zal rfl (b.bvB 6 rfl) (Xx fs)) ?_;refine Ql (Zn q9i b ?_);intro hu _ hv b;have hw:rep cm (Zr.zc GEntry) (Zr.zd:GEntry):=Zr.zr;obtain ⟨cn,ni,a⟩:=Qc a;refine Ql (Z8 0 6 b hw fs (Lf (rr hw) fs) ni ?_);intro nj _ bu _ _ b;refine Qj ?_;refine Qp (fun c o=>∃ aj ft,Gh w cm aj∧Gi w aj [Gk hu nj 33,.row dh 82 7,Gk aa cc 33,.row a6 3 1,Gk ah ai 37,Gk n z 37,Gk m p 82,Gk h a5 37] o∧c 1=Ge e∧c 3=Gg h∧c 5=Gg m∧c 6=Gg n∧c 17=dh∧c 18=Gg hu∧c 171= .bool ft∧qhd e d cd dg cn ft=some r) ?_ ?_;refine Q1<|Qa (Qi Y0 rfl)<|Qa (Qh (Ge cn.state) Z4 rfl (b.bvB 0 rfl) (Z7 (rr bu)))<|Qa (Z5 rfl rfl)<|Qa (Qd (.bool (cn.state==3)) rfl) ?_;rcases ic a with ⟨hx,a⟩ | ⟨hx,a⟩<;>rw [hx];refine Qg rfl rfl (Qi K2 rfl) ?_;obtain ⟨hy,nk,nl⟩:=(Vi (rr bu));refine Qg rfl rfl (Qh hy Y9 rfl (b.bvB 0 rfl) nk)<|Qg rfl rfl (Qd _ m8) ?_;obtain ⟨fv,nm,a⟩:=Q0 a;refine Vo rfl rfl<|Zi (vs:=[hy,Ge q]) (v:= .bool fv) zbm (Ya rfl rfl) b (nm ▸ (Kd b.agree nl)) fun si b=>Qa (Zk (.bool fv) rfl rfl)<|Qj ?_;exact ⟨cm,fv,(Qb _ _ _),b,fp,fq,df,hr,rfl,rfl,rfl,a⟩;refine Qv 5 rfl<|Qj ?_;exact ⟨cm,false,(Qb _ _ _),b,fp,fq,df,hr,rfl,rfl,rfl,a⟩;rintro _ _ ⟨aj,ft,co,b,nn,h0,np,h1,h2,h3,nq,a⟩;replace g:=Zg co g;replace bs:=Qo co.1 bs;replace bu:=Zg co bu;rw [qhd] at a;refine Q4 a nq (fun nr a=>?_) fun nr a=>?_;refine Q1<|Zj h2<|Zj nn<|Qa (Qi Yw np)<|Qa (Qh (Ge d.id) Z4 rfl (b.bvB 6 rfl) (Z3 (rr g)))<|Qa (Qi Vj h3) ?_;obtain ⟨fw,ns,fx⟩:=(Yg (rr bu));refine Qa (Qh fw Z2 rfl (b.bvB 0 rfl) ns)<|Qa (Qi V7 h3) ?_;obtain ⟨fy,nt,fz⟩:=(Y2 (rr bu));refine Qa (Qh fy Z2 rfl (b.bvB 0 rfl) nt) ?_;have h4:=Ka (Zr.zr:rep aj (Zr.zc GFrame) (Zr.zd:GFrame)) (ri 5:rep aj _ _);have h5:=Kb h4 (ri e:rep aj _ _);have h6:=Kc h5 (ri d.id:rep aj _ _);have h7:=GFrame.w5 h6 (Qt fx);have nu:=GFrame.w6 h7 (Qt fz);obtain ⟨h8,nv,a⟩:=Qc a;obtain ⟨nw,nx,ny⟩:∃ cs,qay (([(0,1),(1,1),(2,1),(3,1),(4,1),(5,1),(6,1)]:List (Nat × Nat))[·]?) (Zr.zc GFrame) [(0,Ge 5),(1,Ge e),(2,Ge d.id),(5,fw),(6,fy)]=some cs∧rep aj cs h8:=⟨_,(Zf (Zr.zr:rep aj (Zr.zc GFrame) (Zr.zd:GFrame)) rfl rfl (Xx (ri 5:rep aj _ _)) E9 (Zf h4 rfl rfl (Xx (ri e:rep aj _ _)) E9 (Zf h5 rfl rfl (Xx (ri d.id:rep aj _ _)) E9 (Zf h6 rfl (Q8 fx) (Xx (Qt fx)) E9 (Zf h7 rfl (Q8 fz) (Xx (Qt fz)) E9 Yd))))),Ye (x:=({ kind:=5,node:=e,id:=d.id,ops:=Zr.zd,deps:=Zr.zd,at_:=cn.at_,vals:=cn.values }:GFrame)) nu nv⟩;refine Qa (Z0 [(0,Ge 5),(1,Ge e),(2,Ge d.id),(5,fw),(6,fy)] Xj (Y3 rfl (Y3 rfl (Y3 rfl (Y3 rfl (Y3 rfl Vl))))) nx) ?_;refine Ql (Zz (α := GFrame) (l:=([h8]:List GFrame)) [Gf nw] q8y (Y3 rfl Vl) rfl rfl E9 E9 E9 b (Jj ny Jv) ?_);intro _ _ _ h9 nz b;replace bs:=Qo h9.1 bs;obtain ⟨n0,n1,n2,a⟩:=Z1 a;refine Ql (Yq (α := GFrame) (j:=1) q9n b rfl rfl rfl bs nz n1 ?_);intro ia n3 _ n4 ib b;rw [← n2] at ib;refine Qa (Qf (ia) rfl)<|Qj ?_;exact ⟨n3,ia,n0,(co.trans (h9.trans n4)),(Yz b hv),ib,h0,h1,rfl,a⟩;refine Qk<|Qe ?_;exact ⟨aj,dh,([dg]:List GFrame),co,(Yz b hv),bs,h0,h1,h2,a⟩;rintro _ _ ⟨dj,dk,fr,f0,b,n5,n6,ie,n7,a⟩;replace t:=Zg f0 t;replace br:=Zg f0 br;rw [qhc] at a;refine Qz ?_;have f1:=(rr br);have n8:sl (sl a5 (0) 201) 192 1=[a6]:=(Vq E9).trans m7;refine Qa (Zb Vk n6 (b.bvB 6 rfl) (Xx f1))<|Zj n7 ?_;obtain ⟨_,n9,a⟩:=Qc a;refine Ql (Z9 4 201 b rfl t ie rfl f1 rfl rfl (Lf (rr t) f1) n9 ?_);intro oa _ ig _ ob b;have sv:sl oa (0+192) 1=[a6]:=V3 ob n8 E9;refine Qv 2 rfl<|Qj ?_;cases a;exact Q2 (V0 (j:=4) rfl ie rfl rfl (Vz Vk ig) b rfl (Zc b (au.trans (b1.trans (ay.trans (fo.trans (di.trans f0))))) ⟨_,_,rfl,ig,n5⟩))
abbrev By := @List.countP_cons
abbrev E0 := @List.nodup_cons
abbrev B7 := @Nat.min_le_left
abbrev Di := @Nat.min_eq_left
abbrev Dd := @Nat.min_eq_right
abbrev Et := @Nat.min_le_right
inductive Path (E:Nat→Nat→Prop):Nat→Nat→Prop where
 | refl (a:Nat):Path E a a
 | tail {a b c:Nat}:Path E a b→E b c→Path E a c
section
variable {E:Nat→Nat→Prop}
theorem Path.trans {a b c:Nat} (h:Path E a b) (k:Path E b c):Path E a c:=by
 induction k with
 | refl=>exact h
 | tail _ e ih=>exact .tail ih e
theorem Path.one {a b:Nat} (h:E a b):Path E a b:= .tail (.refl a) h
theorem Path.head {a b c:Nat} (h:E a b) (k:Path E b c):Path E a c:=(Path.one h).trans k
theorem Path.closed {S:Nat→Prop} (hS:∀ a b,S a→E a b→S b) {a b:Nat} (h:Path E a b) (ha:S a):S b:=by
 induction h with
 | refl=>exact ha
 | tail _ e ih=>exact hS _ _ ih e
structure Srch where
 mark:Nat→Nat
 low:Nat→Nat
 ring:Nat→Nat
 stack:List Nat
 next:Nat
def qoh {α : Type} (f:Nat → α) (i:Nat) (x : α):Nat → α := fun k=>if k=i then x else f k
theorem qen {α : Type} (f:Nat → α) (i:Nat) (x : α):qoh f i x i=x:=by simp [qoh]
theorem qdh {α : Type} (f:Nat → α) {i k:Nat} (x : α) (h:k≠i):qoh f i x k=f k:=by simp [qoh,h]
def qyh (E:Nat→Nat→Prop) (v r:Nat):Prop:=Path E v r∧Path E r v∧∀ w,Path E v w→Path E w v→r≤w
def wh (f:Nat→Nat):Nat:=(List.range 32).countP (fun i=>f i==0)
theorem quj {p q:Nat→Bool} {n:Nat} (hp:p n=true) (hq:q n=false) (ho:∀ k,k≠n→p k=q k):∀ (l:List Nat),l.Nodup→n∈l→l.countP p=l.countP q+1:=by
 have hsame:∀ (l:List Nat),n∉l→l.countP p=l.countP q:=by
  intro l
  induction l with
  | nil=>intro _;rfl
  | cons a t ih =>
   intro hn;simp only [X3,not_or] at hn;rw [By,By,ih hn.2,ho a (fun e=>hn.1 e.symm)]
 intro l
 induction l with
 | nil=>intro _ h;cases h
 | cons a t ih =>
  intro hnd hm;rw [E0] at hnd;rw [By,By];by_cases e:a=n
  ·subst e;rw [hsame t hnd.1,hp,hq];simp
  ·have hmt:n∈t:=by
    rcases X3.1 hm with h | h
    ·exact absurd h.symm e
    ·exact h
   rw [ih hnd.2 hmt,ho a e];omega
theorem quk {p q:Nat→Bool} (h:∀ k,p k=true→q k=true) (l:List Nat):l.countP p≤l.countP q:=by
 induction l with
 | nil=>exact Aa _
 | cons a t ih =>
  rw [By,By];cases hp:p a with
  | false=>simp;omega
  | true=>rw [h a hp];simp;omega
theorem qyi {f:Nat→Nat} {n x:Nat} (hn:n<32) (h0:f n=0) (hx:0<x):wh f=wh (qoh f n x)+1:=by
 unfold wh;refine quj (n:=n) (by simp [h0]) ?_ (fun k hk=>by rw [qdh _ _ hk]) _ List.nodup_range (A0.2 hn);rw [qen];simp;omega
theorem zb7 {f f':Nat→Nat} (h:∀ v,0<f v→0<f' v):wh f'≤wh f:=by
 unfold wh;refine quk (fun k hk=>?_) _;have hk':f' k=0:=by simpa using hk
 have:f k=0:=by
  rcases Eg (f k) with h0 | h0
  ·exact h0
  ·have:=h k h0;omega
 simp [this]
structure Inv (E:Nat→Nat→Prop) (s:Srch) (G:List Nat):Prop where
 lt:∀ v,0<s.mark v→v<32
 le:∀ v,s.mark v≤s.next
 inj:∀ u v,s.mark u=s.mark v→0<s.mark u→u=v
 cnt:s.next+wh s.mark≤32
 sorted:s.stack.Pairwise (fun a b=>s.mark a<s.mark b)
 pos:∀ v∈s.stack,0<s.mark v
 gray:∀ g∈G,g∈s.stack
 black:∀ v w,0<s.mark v→v∉G→E v w→0<s.mark w
 done:∀ v w,0<s.mark v→v∉s.stack→E v w→w∉s.stack
 ring:∀ v,0<s.mark v→v∉s.stack→qyh E v (s.ring v)
 reach:∀ x∈G,∀ y∈s.stack,s.mark x≤s.mark y→Path E x y
 back:∀ y∈s.stack,∃ x∈G,s.mark x≤s.mark y∧Path E y x
structure Ext (E:Nat→Nat→Prop) (s s':Srch) (n:Nat):Prop where
 mark_old:∀ v,0<s.mark v→s'.mark v=s.mark v
 low_old:∀ v,0<s.mark v→s'.low v=s.low v
 fresh:∀ v,s.mark v=0→0<s'.mark v→s.next<s'.mark v∧Path E n v
 next:s.next≤s'.next
structure Post (E:Nat→Nat→Prop) (s s':Srch) (n:Nat) (G:List Nat):Prop where
 inv:Inv E s' G
 ext:Ext E s s' n
 mine:0<s'.mark n
 low_le:s'.low n≤s'.mark n
 low_or:s'.low n=s'.mark n∨∃ z∈s.stack,s'.mark z=s'.low n∧Path E n z
 stack:∃ new,s'.stack=s.stack++new∧∀ y∈new,∀ z∈s.stack,E y z→s'.low n≤s'.mark z
structure LI (E:Nat→Nat→Prop) (s:Srch) (G:List Nat) (n:Nat) (t:Srch) (ds:Nat→Prop):Prop where
 was:Inv E s G
 white:s.mark n=0
 inv:Inv E t (n::G)
 ext:Ext E s t n
 nmark:t.mark n=s.next+1
 low_le:t.low n≤t.mark n
 low_or:t.low n=t.mark n∨∃ z∈s.stack,t.mark z=t.low n∧Path E n z
 stack:∃ new,t.stack=s.stack++n::new∧∀ y∈new,∀ z∈s.stack,E y z→t.low n≤t.mark z
 proc:∀ d,ds d→0<t.mark d∧(d∈s.stack→t.low n≤t.mark d)
def q0f (s:Srch) (n:Nat):Srch:={ mark:=qoh s.mark n (s.next+1),low:=qoh s.low n (s.next+1),ring:=s.ring,stack:=s.stack++[n],next:=s.next+1 }
theorem LI.start {s:Srch} {G:List Nat} {n:Nat} (h:Inv E s G) (hn:n<32) (h0:s.mark n=0) (hG:∀ g∈G,Path E g n):LI E s G n (q0f s n) (fun _=>False):=by
 have hns:n∉s.stack:=fun hm=>by have:=h.pos n hm;omega
 have hmk:∀ v,v≠n→(q0f s n).mark v=s.mark v:=fun v hv=>qdh _ _ hv;have hmn:(q0f s n).mark n=s.next+1:=qen _ _ _;have hne:∀ v,0<s.mark v→v≠n:=fun v hv e=>by subst e;omega
 have hst:(q0f s n).stack=s.stack++[n]:=rfl;refine ⟨h,h0,⟨fun v hv=>?_,fun v=>?_,fun u v huv hu=>?_,?_,?_,fun v hv=>?_,fun g hg=>?_,fun v w hv hg he=>?_,fun v w hv hs he=>?_,fun v hv hs=>?_,fun x hx y hy hxy=>?_,fun y hy=>?_⟩,⟨fun v hv=>hmk v (hne v hv),fun v hv=>qdh _ _ (hne v hv),fun v hv hv'=>?_,Nat.le_succ _⟩,hmn,?_,.inl ?_,⟨[],rfl,by simp⟩,fun d hd=>hd.elim⟩
 ·by_cases e:v=n
  ·subst e;exact hn
  ·rw [hmk v e] at hv;exact h.lt v hv
 ·show _≤s.next+1;by_cases e:v=n
  ·subst e;rw [hmn];exact Aa _
  ·rw [hmk v e];have:=h.le v;omega
 ·by_cases e1:u=n
  ·by_cases e2:v=n
   ·rw [e1,e2]
   ·subst e1;rw [hmn,hmk v e2] at huv;have:=h.le v;omega
  ·by_cases e2:v=n
   ·subst e2;rw [hmn,hmk u e1] at huv;have:=h.le u;omega
   ·rw [hmk u e1,hmk v e2] at huv;rw [hmk u e1] at hu;exact h.inj u v huv hu
 ·have:=qyi (x:=s.next+1) hn h0 E8;have hc:=h.cnt;show s.next+1+wh (qoh s.mark n (s.next+1))≤32;omega
 ·rw [hst,Bp];refine ⟨?_,List.pairwise_singleton _ _,fun a ha b hb=>?_⟩
  ·refine List.Pairwise.imp_of_mem (fun {a b} ha hb hab=>?_) h.sorted;rw [hmk a (fun e=>hns (e ▸ ha)),hmk b (fun e=>hns (e ▸ hb))];exact hab
  ·rw [X8] at hb;subst hb;rw [hmn,hmk a (fun e=>hns (e ▸ ha))];have:=h.le a;omega
 ·rw [hst,Ad,X8] at hv;rcases hv with hv | rfl
  ·have:=h.pos v hv;rw [hmk v (hne v this)];exact this
  ·rw [hmn];omega
 ·rw [hst,Ad,X8];rcases X3.1 hg with rfl | hg
  ·exact .inr rfl
  ·exact .inl (h.gray g hg)
 ·simp only [X3,not_or] at hg;rw [hmk v hg.1] at hv;have:=h.black v w hv hg.2 he;rw [hmk w (hne w this)];exact this
 ·rw [hst,Ad,X8,not_or] at hs;rw [hmk v hs.2] at hv;rw [hst,Ad,X8,not_or];refine ⟨h.done v w hv hs.1 he,fun e=>?_⟩;subst e;have hvG:v∉G:=fun hg=>hs.1 (h.gray v hg);have:=h.black v w hv hvG he;omega
 ·rw [hst,Ad,X8,not_or] at hs;rw [hmk v hs.2] at hv;exact h.ring v hv hs.1
 ·rw [hst,Ad,X8] at hy;rcases X3.1 hx with rfl | hx2
  ·rcases hy with hy | rfl
   ·have hp:=h.pos y hy;rw [hmn,hmk y (hne y hp)] at hxy;have:=h.le y;omega
   ·exact .refl _
  ·rcases hy with hy | rfl
   ·have hp:=h.pos y hy;have hpx:=h.pos x (h.gray x hx2);rw [hmk x (hne x hpx),hmk y (hne y hp)] at hxy;exact h.reach x hx2 y hy hxy
   ·exact hG x hx2
 ·rw [hst,Ad,X8] at hy;rcases hy with hy | rfl
  ·obtain ⟨x,hx,hxy,hp⟩:=h.back y hy;have hpx:=h.pos x (h.gray x hx);refine ⟨x,X0 _ hx,?_,hp⟩;rw [hmk x (hne x hpx),hmk y (hne y (h.pos y hy))];exact hxy
  ·exact ⟨y,X2,Aa _,.refl _⟩
 ·by_cases e:v=n
  ·subst e;rw [hmn];exact ⟨by omega,.refl _⟩
  ·rw [hmk v e] at hv';omega
 ·rw [hmn];show qoh s.low n (s.next+1) n≤_;rw [qen];exact Aa _
 ·rw [hmn];exact qen _ _ _
theorem Inv.low {s:Srch} {G:List Nat} (h:Inv E s G) (l:Nat→Nat):Inv E { s with low:=l } G :=
 ⟨h.lt,h.le,h.inj,h.cnt,h.sorted,h.pos,h.gray,h.black,h.done,h.ring,h.reach,h.back⟩
section
variable {s t:Srch} {G:List Nat} {n:Nat} {ds:Nat→Prop}
theorem LI.old (h:LI E s G n t ds) {z:Nat} (hz:z∈s.stack):0<s.mark z∧t.mark z=s.mark z∧t.mark z<t.mark n:=by
 have h1:=h.was.pos z hz;have h2:=h.ext.mark_old z h1;have h3:=h.was.le z;refine ⟨h1,h2,?_⟩;rw [h2,h.nmark];omega
theorem LI.new (h:LI E s G n t ds) {new:List Nat} (hst:t.stack=s.stack++n::new) {y:Nat} (hy:y∈n::new):t.mark n≤t.mark y:=by
 have h1:=h.inv.sorted;rw [hst,Bp] at h1;rcases X3.1 hy with rfl | hy
 ·exact Aa _
 ·exact Nat.le_of_lt ((Ax.1 h1.2.1).1 y hy)
theorem LI.visit {t':Srch} {d:Nat} (h:LI E s G n t ds) (hd0:t.mark d=0) (he:E n d) (hp:Post E t t' d (n::G)) :
 LI E s G n { t' with low:=qoh t'.low n (min (t'.low n) (t'.low d)) } (fun x=>ds x∨x=d):=by
 have hn0:0<t.mark n:=by rw [h.nmark];omega
 have hmn:t'.mark n=t.mark n:=hp.ext.mark_old n hn0;have hln:t'.low n=t.low n:=hp.ext.low_old n hn0;have hmd:=hp.ext.fresh d hd0 hp.mine;have hnn:t.mark n≤t.next:=h.inv.le n;obtain ⟨new,hst,hnew⟩:=h.stack;obtain ⟨newd,hst',hnew'⟩:=hp.stack;have hlow2:(qoh t'.low n (min (t'.low n) (t'.low d))) n=min (t.low n) (t'.low d):=by rw [qen,hln]
 refine ⟨h.was,h.white,hp.inv.low _,⟨fun v hv=>?_,fun v hv=>?_,fun v hv hv'=>?_,Ar h.ext.next hp.ext.next⟩,by rw [← h.nmark];exact hmn,?_,?_,⟨new++newd,?_,fun y hy z hz hyz=>?_⟩,fun x hx=>?_⟩
 ·have h1:=h.ext.mark_old v hv;rw [hp.ext.mark_old v E8];exact h1
 ·have h1:=h.ext.mark_old v hv;have hvn:v≠n:=fun e=>by subst e;rw [h.white] at hv;omega
  show qoh t'.low n _ v=_;rw [qdh _ _ hvn,hp.ext.low_old v E8];exact h.ext.low_old v hv
 ·rcases Eg (t.mark v) with h0 | h0
  ·have h1:=hp.ext.fresh v h0 hv';have h2:=h.ext.next;exact ⟨by show s.next<t'.mark v;omega,Path.head he h1.2⟩
  ·have h1:=hp.ext.mark_old v h0;have h2:=h.ext.fresh v hv h0;exact ⟨by show s.next<t'.mark v;rw [h1];exact h2.1,h2.2⟩
 ·show qoh t'.low n _ n≤t'.mark n;rw [hlow2,hmn];exact Ar (B7 _ _) h.low_le
 ·show qoh t'.low n _ n=t'.mark n∨∃ z∈s.stack,t'.mark z=qoh t'.low n _ n∧Path E n z;rw [hlow2,hmn];by_cases hle:t.low n≤t'.low d
  ·rw [Di hle];rcases h.low_or with h1 | ⟨z,hz,h1,h2⟩
   ·exact .inl h1
   ·have h3:=h.old hz;exact .inr ⟨z,hz,by rw [hp.ext.mark_old z E8];exact h1,h2⟩
  ·rw [Dd E8];have hll:=h.low_le;rcases hp.low_or with h1 | ⟨z,hz,h1,h2⟩
   ·omega
   ·refine .inr ⟨z,?_,h1,Path.head he h2⟩;have hz':=hz;rw [hst] at hz';rcases Ad.1 hz' with h3 | h3
    ·exact h3
    ·have h4:=h.new hst h3;have h5:=hp.ext.mark_old z (h.inv.pos z hz);omega
 ·show t'.stack=_;rw [hst',hst];simp
 ·show qoh t'.low n _ n≤t'.mark z;rw [hlow2];have h3:=h.old hz;have h4:=hp.ext.mark_old z E8;rcases Ad.1 hy with hy | hy
  ·have:=hnew y hy z hz hyz;rw [h4];exact Ar (B7 _ _) this
  ·have:=hnew' y hy z (by rw [hst];exact Bc _ hz) hyz;exact Ar (Et _ _) this
 ·show 0<t'.mark x∧(x∈s.stack→qoh t'.low n _ n≤t'.mark x);rw [hlow2];rcases hx with hx | rfl
  ·have h1:=h.proc x hx;have h2:=hp.ext.mark_old x h1.1;rw [h2];exact ⟨h1.1,fun hs=>Ar (B7 _ _) (h1.2 hs)⟩
  ·exact ⟨hp.mine,fun hs=>by have:=h.old hs;omega⟩
theorem LI.on {d:Nat} (h:LI E s G n t ds) (hd:d∈t.stack) (he:E n d) :
 LI E s G n { t with low:=qoh t.low n (min (t.low n) (t.mark d)) } (fun x=>ds x∨x=d):=by
 obtain ⟨new,hst,hnew⟩:=h.stack;have hlow2:(qoh t.low n (min (t.low n) (t.mark d))) n=min (t.low n) (t.mark d):=qen _ _ _;refine ⟨h.was,h.white,h.inv.low _,⟨h.ext.mark_old,fun v hv=>?_,h.ext.fresh,h.ext.next⟩,h.nmark,?_,?_,⟨new,hst,fun y hy z hz hyz=>?_⟩,fun x hx=>?_⟩
 ·have hvn:v≠n:=fun e=>by subst e;rw [h.white] at hv;omega
  show qoh t.low n _ v=_;rw [qdh _ _ hvn];exact h.ext.low_old v hv
 ·show qoh t.low n _ n≤t.mark n;rw [hlow2];exact Ar (B7 _ _) h.low_le
 ·show qoh t.low n _ n=t.mark n∨∃ z∈s.stack,t.mark z=qoh t.low n _ n∧Path E n z;rw [hlow2];by_cases hle:t.low n≤t.mark d
  ·rw [Di hle];exact h.low_or
  ·rw [Dd E8];have hll:=h.low_le;refine .inr ⟨d,?_,rfl,Path.one he⟩;have hd':=hd;rw [hst] at hd';rcases Ad.1 hd' with h3 | h3
   ·exact h3
   ·have h4:=h.new hst h3;omega
 ·show qoh t.low n _ n≤t.mark z;rw [hlow2];exact Ar (B7 _ _) (hnew y hy z hz hyz)
 ·show 0<t.mark x∧(x∈s.stack→qoh t.low n _ n≤t.mark x);rw [hlow2];rcases hx with hx | rfl
  ·have h1:=h.proc x hx;exact ⟨h1.1,fun hs=>Ar (B7 _ _) (h1.2 hs)⟩
  ·exact ⟨h.inv.pos x hd,fun _=>Et _ _⟩
theorem LI.skip {d:Nat} (h:LI E s G n t ds) (hm:0<t.mark d) (hd:d∉t.stack):LI E s G n t (fun x=>ds x∨x=d):=by
 obtain ⟨new,hst,hnew⟩:=h.stack;refine ⟨h.was,h.white,h.inv,h.ext,h.nmark,h.low_le,h.low_or,h.stack,fun x hx=>?_⟩;rcases hx with hx | rfl
 ·exact h.proc x hx
 ·exact ⟨hm,fun hs=>absurd (by rw [hst];exact Bc _ hs) hd⟩
theorem LI.keep (h:LI E s G n t ds) (hall:∀ d,E n d→ds d) (hlow:t.low n≠t.mark n):Post E s t n G:=by
 obtain ⟨new,hst,hnew⟩:=h.stack;have hlt:t.low n<t.mark n:=Nat.lt_of_le_of_ne h.low_le hlow;obtain ⟨z,hz,hm,hp⟩:∃ z∈s.stack,t.mark z=t.low n∧Path E n z:=by
  rcases h.low_or with h1 | h1
  ·exact absurd h1 hlow
  ·exact h1
 refine ⟨⟨h.inv.lt,h.inv.le,h.inv.inj,h.inv.cnt,h.inv.sorted,h.inv.pos,fun g hg=>h.inv.gray g (X0 _ hg),fun v w hv hg hvw=>?_,h.inv.done,h.inv.ring,fun x hx=>h.inv.reach x (X0 _ hx),fun y hy=>?_⟩,h.ext,by rw [h.nmark];omega,h.low_le,h.low_or,⟨n::new,hst,fun y hy z hz hyz=>?_⟩⟩
 ·by_cases e:v=n
  ·subst e;exact (h.proc w (hall w hvw)).1
  ·exact h.inv.black v w hv (by simp only [X3,not_or];exact ⟨e,hg⟩) hvw
 ·obtain ⟨x,hx,hxy,p⟩:=h.inv.back y hy;rcases X3.1 hx with rfl | hx
  ·obtain ⟨x',hx',hxz,p'⟩:=h.was.back z hz;have h1:=h.old hz;have h2:=h.old (h.was.gray x' hx');exact ⟨x',hx',by omega,(p.trans hp).trans p'⟩
  ·exact ⟨x,hx,hxy,p⟩
 ·rcases X3.1 hy with rfl | hy
  ·exact (h.proc z (hall z hyz)).2 hz
  ·exact hnew y hy z hz hyz
theorem LI.pop (h:LI E s G n t ds) (hall:∀ d,E n d→ds d) (hlow:t.low n=t.mark n) {new:List Nat} (hst:t.stack=s.stack++n::new) {r:Nat} {ring':Nat→Nat} (hr1:∀ v∈n::new,ring' v=r)
 (hr2:∀ v,v∉n::new→ring' v=t.ring v) (hmem:r∈n::new) (hmin:∀ v∈n::new,r≤v):Post E s { t with ring:=ring',stack:=s.stack } n G:=by
 obtain ⟨new2,hst2,hnew⟩:=h.stack;have e2:new2=new:=by
  rw [hst] at hst2;have:=List.append_cancel_left hst2;simp only [List.cons.injEq,true_and] at this;exact this.symm
 subst e2;have hC:∀ y∈n::new2,y∈t.stack:=fun y hy=>by rw [hst];exact Bu _ hy
 have hCn:∀ y∈n::new2,t.mark n≤t.mark y:=fun y hy=>h.new hst hy;have hS:∀ y∈s.stack,y∈t.stack:=fun y hy=>by rw [hst];exact Bc _ hy
 have hdis:∀ y∈n::new2,y∉s.stack:=fun y hy hs=>by have:=hCn y hy;have:=h.old hs;omega
 have hfrom:∀ y∈n::new2,Path E n y:=fun y hy=>h.inv.reach n X2 y (hC y hy) (hCn y hy);have hto:∀ y∈n::new2,Path E y n:=fun y hy=>by
  obtain ⟨x,hx,hxy,p⟩:=h.inv.back y (hC y hy);refine p.trans (h.inv.reach x hx n (hC n X2) ?_);rcases X3.1 hx with rfl | hx
  ·exact Aa _
  ·have:=h.old (h.was.gray x hx);omega
 have hout:∀ y∈n::new2,∀ w,E y w→0<t.mark w∧(w∈n::new2∨w∉t.stack):=by
  intro y hy w hyw;have hw0:0<t.mark w:=by
   rcases X3.1 hy with rfl | hy'
   ·exact (h.proc w (hall w hyw)).1
   ·refine h.inv.black y w (h.inv.pos y (hC y hy)) ?_ hyw;simp only [X3,not_or];refine ⟨fun e=>?_,fun hg=>hdis y hy (h.was.gray y hg)⟩;subst e;have h1:=h.inv.sorted;rw [hst,Bp] at h1;exact absurd ((Ax.1 h1.2.1).1 y hy') (E3 _)
  refine ⟨hw0,?_⟩;by_cases hws:w∈t.stack
  ·left;have hws':=hws;rw [hst] at hws';rcases Ad.1 hws' with h3 | h3
   ·have h4:=h.old h3;have h5:t.low n≤t.mark w:=by
     rcases X3.1 hy with rfl | hy'
     ·exact (h.proc w (hall w hyw)).2 h3
     ·exact hnew y hy' w h3 hyw
    omega
   ·exact h3
  ·exact .inr hws
 have hdone:∀ a b,(0<t.mark a∧a∉t.stack)→E a b→(0<t.mark b∧b∉t.stack):=fun a b ⟨h1,h2⟩ hab =>
  ⟨h.inv.black a b h1 (fun hg=>h2 (h.inv.gray a hg)) hab,h.inv.done a b h1 h2 hab⟩
 have hclosed:∀ a b,(0<t.mark a∧(a∈n::new2∨a∉t.stack))→E a b→(0<t.mark b∧(b∈n::new2∨b∉t.stack)):=by
  rintro a b ⟨h1,h2 | h2⟩ hab
  ·exact hout a h2 b hab
  ·have:=hdone a b ⟨h1,h2⟩ hab;exact ⟨this.1,.inr this.2⟩
 have hnot:∀ v,v∉s.stack→v∉n::new2→v∉t.stack:=fun v h1 h2 h3=>by
  rw [hst] at h3;rcases Ad.1 h3 with h3 | h3
  ·exact h1 h3
  ·exact h2 h3
 have hsorted:s.stack.Pairwise (fun a b=>t.mark a<t.mark b):=by
  have h1:=h.inv.sorted;rw [hst,Bp] at h1;exact h1.1
 refine ⟨⟨h.inv.lt,h.inv.le,h.inv.inj,h.inv.cnt,hsorted,fun v hv=>h.inv.pos v (hS v hv),h.was.gray,fun v w hv hg hvw=>?_,fun v w hv hs hvw=>?_,fun v hv hs=>?_,fun x hx y hy=>h.inv.reach x (X0 _ hx) y (hS y hy),fun y hy=>?_⟩,
  ⟨h.ext.mark_old,h.ext.low_old,h.ext.fresh,h.ext.next⟩,by show 0<t.mark n;rw [h.nmark];omega,h.low_le,.inl hlow,⟨[],by simp,by simp⟩⟩
 ·by_cases e:v=n
  ·subst e;exact (h.proc w (hall w hvw)).1
  ·exact h.inv.black v w hv (by simp only [X3,not_or];exact ⟨e,hg⟩) hvw
 ·by_cases hvC:v∈n::new2
  ·rcases (hout v hvC w hvw).2 with h1 | h1
   ·exact hdis w h1
   ·exact fun h2=>h1 (hS w h2)
  ·have:=h.inv.done v w hv (hnot v hs hvC) hvw;exact fun h2=>this (hS w h2)
 ·by_cases hvC:v∈n::new2
  ·show qyh E v (ring' v);rw [hr1 v hvC];refine ⟨(hto v hvC).trans (hfrom r hmem),(hto r hmem).trans (hfrom v hvC),fun w hvw hwv=>hmin w ?_⟩;have h1:=Path.closed (S:=fun a=>0<t.mark a∧(a∈n::new2∨a∉t.stack)) hclosed hvw ⟨hv,.inl hvC⟩;rcases h1.2 with h2 | h2
   ·exact h2
   ·have h3:=Path.closed (S:=fun a=>0<t.mark a∧a∉t.stack) hdone hwv ⟨h1.1,h2⟩;exact absurd (hC v hvC) h3.2
  ·show qyh E v (ring' v);rw [hr2 v hvC];exact h.inv.ring v hv (hnot v hs hvC)
 ·obtain ⟨x,hx,hxy,p⟩:=h.was.back y hy;have h1:=h.old hy;have h2:=h.old (h.was.gray x hx);exact ⟨x,hx,by show t.mark x≤t.mark y;omega,p⟩
end
theorem Inv.empty {s:Srch} (h1:∀ v,s.mark v=0) (h2:s.stack=[]) (h3:s.next=0):Inv E s []:=by
 refine ⟨fun v hv=>?_,fun v=>?_,fun u v _ hu=>?_,?_,(by rw [h2];exact .nil),fun v hv=>?_,fun g hg=>(by cases hg),fun v w hv=>?_,fun v w hv=>?_,fun v hv=>?_,fun x hx=>(by cases hx),fun y hy=>?_⟩
 ·rw [h1] at hv;omega
 ·rw [h1];omega
 ·rw [h1] at hu;omega
 ·rw [h3];have:wh s.mark≤32:=by
   have:=List.countP_le_length (p:=fun i=>s.mark i==0) (l:=List.range 32);rw [List.length_range] at this;exact this
  omega
 ·rw [h2] at hv;cases hv
 ·rw [h1] at hv;omega
 ·rw [h1] at hv;omega
 ·rw [h1] at hv;omega
 ·rw [h2] at hy;cases hy
theorem Post.final {s s':Srch} {n:Nat} (h:Post E s s' n []) (h1:∀ v,s.mark v=0):(∀ v,0<s'.mark v↔Path E n v)∧∀ v,Path E n v→qyh E v (s'.ring v):=by
 have hst:∀ y,y∉s'.stack:=fun y hy=>by obtain ⟨x,hx,_⟩:=h.inv.back y hy;cases hx
 have hp:∀ v,Path E n v→0<s'.mark v:=fun v hv=>Path.closed (S:=fun a=>0<s'.mark a) (fun a b ha hab=>h.inv.black a b ha (by simp) hab) hv h.mine;exact ⟨fun v=>⟨fun hv=>(h.ext.fresh v (h1 v) hv).2,hp v⟩,fun v hv=>h.inv.ring v (hp v hv) (hst v)⟩
end
abbrev Dn := @List.nodup_append
abbrev D1 := @List.length_pos_of_mem
theorem qmv:∀ (n:Nat) (l:List Nat),l.Nodup→(∀ x∈l,x<n)→l.length≤n
 | 0,l,_,h=>by
  cases l with
  | nil=>simp
  | cons a t=>exact absurd (h a List.mem_cons_self) (Nat.not_lt_zero _)
 | n+1,l,hn,h=>by
  have h1:=qmv n (l.filter (· != n)) (hn.filter _) (fun x hx=>by
   rw [List.mem_filter] at hx
   have:=h x hx.1
   have h2:x≠n:=by simpa using hx.2
   omega)
  have h2:l.length≤(l.filter (· != n)).length+1:=by
   clear h1 h
   induction l with
   | nil=>simp
   | cons a t ih =>
    rw [E0] at hn;have ih:=ih hn.2;by_cases e:a=n
    ·subst e;have:t.filter (· != a)=t:=List.filter_eq_self.2 fun x hx=>by simp;rintro rfl;exact hn.1 hx
     simp [this]
    ·rw [List.filter_cons_of_pos (by simpa using e)];simp only [X9];omega
  omega
theorem q72 {p q:Nat→Bool} (h:∀ k,q k=true→p k=true) {x:Nat} (hp:p x=true) (hq:q x=false):∀ (l:List Nat),x∈l→l.countP q<l.countP p:=by
 intro l
 induction l with
 | nil=>intro h;cases h
 | cons a t ih =>
  intro hm;rw [By,By];have hle:=quk h t;rcases X3.1 hm with rfl | hm
  ·rw [hp,hq];simp;omega
  ·have:=ih hm;cases hqa:q a with
   | false=>simp;omega
   | true=>rw [h a hqa];simp;omega
def qjq (P:Nat→Nat→Bool) (n:Nat) (out:List Nat) (m:Nat):Bool:=P n m&&(!out.contains m&&(List.range 32).all fun d => !P m d||(P d m||out.contains d))
def qi4 (P:Nat→Nat→Bool) (n:Nat) (out:List Nat):Option Nat:=(List.range 32).find? (qjq P n out)
def q0g (P:Nat→Nat→Bool) (c:Nat):List Nat:=(List.range 32).filter fun m=>P c m&&P m c
def qlu (P:Nat→Nat→Bool) (n:Nat):Nat→List Nat→List Nat
 | 0,out=>out
 | k+1,out=>match qi4 P n out with
  | none=>out
  | some c=>qlu P n k (out++q0g P c)
def q4b (P:Nat→Nat→Bool) (n:Nat):List Nat:=qlu P n 32 []
structure Pre (P:Nat→Nat→Bool):Prop where
 refl:∀ a,a<32→P a a=true
 trans:∀ a b c,P a b=true→P b c=true→P a c=true
 lt:∀ a b,a<32→P a b=true→b<32
structure OKO (P:Nat→Nat→Bool) (n:Nat) (out:List Nat):Prop where
 nodup:out.Nodup
 lt:∀ m∈out,m<32
 sub:∀ m∈out,P n m=true
 dc:∀ m∈out,∀ d,P m d=true→d∈out
section
variable {P:Nat→Nat→Bool} {n:Nat} {out:List Nat}
theorem candO_iff {m:Nat}:qjq P n out m=true↔P n m=true∧m∉out∧∀ d,d<32→P m d=true→P d m=true∨d∈out:=by
 simp only [qjq,X1,Dm,Bg,A0,Dh,List.contains_eq_mem,decide_eq_true_eq,decide_eq_false_iff_not];constructor
 ·rintro ⟨h1,h2,h3⟩;refine ⟨h1,h2,fun d hd hm=>?_⟩;rcases h3 d hd with h | h
  ·rw [hm] at h;cases h
  ·exact h
 ·rintro ⟨h1,h2,h3⟩;refine ⟨h1,h2,fun d hd=>?_⟩;cases hm:P m d with
  | false=>exact .inl rfl
  | true=>exact .inr (h3 d hd hm)
theorem qgm {c:Nat} (h:qi4 P n out=some c):c<32∧qjq P n out c=true∧∀ m,m<c→qjq P n out m=false:=by
 unfold qi4 at h;have h1:=List.find?_some h;have h2:=List.mem_of_find?_eq_some h;refine ⟨A0.1 h2,h1,fun m hm=>?_⟩;rw [List.find?_range_eq_some] at h;have:=h.2.2 m hm;simpa using this
theorem q95 {c:Nat} (hc:c<32) (h1:qjq P n out c=true) (h2:∀ m,m<c→qjq P n out m=false):qi4 P n out=some c:=by
 unfold qi4;rw [List.find?_range_eq_some];exact ⟨h1,A0.2 hc,fun m hm=>by simp [h2 m hm]⟩
theorem nextO_none:qi4 P n out=none↔∀ m,m<32→qjq P n out m=false:=by
 unfold qi4;rw [List.find?_eq_none];simp
theorem mem_ringO {c m:Nat}:m∈q0g P c↔m<32∧P c m=true∧P m c=true:=by
 simp [q0g,List.mem_filter]
theorem OKO.nil:OKO P n []:=⟨List.nodup_nil,by simp,by simp,by simp⟩
theorem OKO.step (hP:Pre P) (hn:n<32) (h:OKO P n out) {c:Nat} (hc:qi4 P n out=some c):OKO P n (out++q0g P c):=by
 obtain ⟨hc32,hcand,_⟩:=qgm hc;rw [candO_iff] at hcand;obtain ⟨h1,h2,h3⟩:=hcand;refine ⟨?_,fun m hm=>?_,fun m hm=>?_,fun m hm d hd=>?_⟩
 ·rw [Dn];refine ⟨h.nodup,List.nodup_range.filter _,fun a ha b hb=>?_⟩;rintro rfl;exact h2 (h.dc a ha c (mem_ringO.1 hb).2.2)
 ·rcases Ad.1 hm with hm | hm
  ·exact h.lt m hm
  ·exact (mem_ringO.1 hm).1
 ·rcases Ad.1 hm with hm | hm
  ·exact h.sub m hm
  ·exact hP.trans _ _ _ h1 (mem_ringO.1 hm).2.1
 ·rcases Ad.1 hm with hm | hm
  ·exact Bc _ (h.dc m hm d hd)
  ·obtain ⟨hm32,hcm,hmc⟩:=mem_ringO.1 hm;have hcd:=hP.trans _ _ _ hcm hd;have hd32:=hP.lt m d hm32 hd;rcases h3 d hd32 hcd with h4 | h4
   ·exact Bu _ (mem_ringO.2 ⟨hd32,hcd,h4⟩)
   ·exact Bc _ h4
theorem qro (hP:Pre P) {c:Nat} (hc:c<32):c∈q0g P c:=mem_ringO.2 ⟨hc,hP.refl c hc,hP.refl c hc⟩
theorem OKO.len (h:OKO P n out):out.length≤32:=qmv 32 out h.nodup h.lt
theorem OKO.full (h:OKO P n out) (hl:32≤out.length):qi4 P n out=none:=by
 rw [nextO_none];intro m hm;cases hc:qjq P n out m with
 | false=>rfl
 | true =>
  rw [candO_iff] at hc;have:=qmv 32 (m::out) (E0.2 ⟨hc.2.1,h.nodup⟩) (fun x hx=>by
   rcases X3.1 hx with rfl | hx
   ·exact hm
   ·exact h.lt x hx)
  simp only [X9] at this;omega
theorem OKO.more (hP:Pre P) (hn:n<32) (h:OKO P n out):∀ (k m:Nat),(List.range 32).countP (P m)≤k→P n m=true→m∉out→qi4 P n out≠none
 | k,m,hk,hm,hmo=>by
  intro h0;have hm32:=hP.lt n m hn hm;have hno:=nextO_none.1 h0 m hm32;by_cases hall:∀ d,d<32→P m d=true→P d m=true∨d∈out
  ·rw [candO_iff.2 ⟨hm,hmo,hall⟩] at hno;cases hno
  ·have hex:∃ d,d<32∧P m d=true∧P d m=false∧d∉out:=by
    refine Classical.byContradiction fun hne=>hall fun d hd hmd=>?_;by_cases h1:d∈out
    ·exact .inr h1
    ·cases h2:P d m with
     | true=>exact .inl rfl
     | false=>exact absurd ⟨d,hd,hmd,h2,h1⟩ hne
   obtain ⟨d,hd,hmd,hdm,hdo⟩:=hex;have hlt:(List.range 32).countP (P d)<(List.range 32).countP (P m) :=
    q72 (p:=P m) (q:=P d) (fun x hx=>hP.trans _ _ x hmd hx) (hP.refl m hm32) hdm _ (A0.2 hm32)
   cases k with
   | zero=>omega
   | succ k=>exact OKO.more hP hn h k d E8 (hP.trans _ _ _ hm hmd) hdo h0
theorem qwz (hP:Pre P) (hn:n<32):∀ (k:Nat) (out:List Nat),OKO P n out→32≤k+out.length→OKO P n (qlu P n k out)∧qi4 P n (qlu P n k out)=none
 | 0,out,h,hk=>⟨h,h.full E8⟩
 | k+1,out,h,hk=>by
  unfold qlu;cases hc:qi4 P n out with
  | none=>exact ⟨h,hc⟩
  | some c =>
   refine qwz hP hn k _ (h.step hP hn hc) ?_;have:=D1 (qro hP (qgm hc).1);rw [X5];omega
theorem q0h (hP:Pre P) (hn:n<32):OKO P n (q4b P n):=(qwz hP hn 32 [] OKO.nil (by simp)).1
end
end Go.Proofs.YtaimhfbbenbdaaaGreat
