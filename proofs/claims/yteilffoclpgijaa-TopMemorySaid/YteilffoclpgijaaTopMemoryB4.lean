/- What the proof of TopMemory rests on, part 4: rules of walks, what functions compute, and plain laws of it. -/
import Derived.Test.YteilffoclpgijaaTopMemoryB3
import Derived.ProofKit
import Derived.OpenShut
import Derived.ShutString
import Derived.ChangeOld
import Derived.SizedLaws
import Derived.Deep.Slices
namespace Go.Proofs.Yteilffoclpgijaa
set_option maxHeartbeats 4000000
set_option maxRecDepth 100000
open Go.RowKit
open Rep (rep)
set_option linter.unusedVariables false
variable {M:Mm} {w:World} {fu:Nat}
abbrev Kh := @qxh
abbrev Vp := @q3d
theorem qmi {d:Value} {h:List GOp} {r:(List GOp)} (n:Agree M w) (c:repL M d h) (a:qc8 fu h=some r) :
    Calls Try.prog 53 #[d] w (qa8 M w [] (fun o u p=>∃ e,u=e∧p=[.row e 65 3]∧repL o e r)):=by
 refine Zc Try.func53 8 fun T q=>?_;have i:T 0=d:=q 0;have b:St w (qac []) M [] w:=Zq n;rw [qc8] at a;refine Qv<|Qb (Qf ((.slice none 0 0)) rfl)<|Qj<|Qr<|Qv<|Zj i<|Qb (qm6 rfl rfl Zm c)<|Qj ?_;refine qe9 rfl (fun k=>?_) (fun k=>?_);replace a:(some [])=some r:=by rw [Up c k] at a;simpa [app] using a
 refine Qv<|Qb (Qf ((.slice none 0 0)) rfl)<|Qj ?_;replace b:=b.nilRow 65 3;cases a;exact Qz (Yk rfl rfl ⟨_,M,_,rfl,(Qc _ _ _),(b.sel (H':=[.row (.slice none 0 0) 65 3]) [0] Ed rfl),(.slice none 0 0),rfl,rfl,(Z8 _)⟩);refine Ql<|Qe<|Qv ?_;refine Qk (Uq q5d b ?_);intro s t _ l f b;replace f:repL t s ([]:List GOp):=f _;replace c:=Qo l.1 c;refine Zj i ?_;obtain ⟨_,v,x,a⟩:=Yi a;refine Qk (Vq (α := GOp) (j:=0) q5d b rfl rfl rfl f c v ?_);intro g y _ z m b;rw [← x] at m;refine Qb (Qf (g) rfl)<|Qj ?_;cases a;exact Qz (Yk rfl rfl ⟨_,y,_,rfl,(l.trans z),(b.sel (H':=[.row g 65 3]) [0] Ed rfl),g,rfl,rfl,m⟩)
theorem qzz {e:Em} {x1:GEntry} {r:GEntry} (hA:Agree M w) (i:rep M e x1) (b:qn6 fu x1=some r) :
    Calls Try.prog 45 #[Eg e] w (qa8 M w [] (fun f u g=>∃ p ay az a0 a1 a2,u=Eg p∧g=[.row ay 65 3,.row az 3 1,.row a0 3 1,.row a1 3 1,.row a2 3 1]∧rep f p r∧sl p 1 1=[ay]∧sl p 2 1=[az]∧sl p 3 1=[a0]∧sl p 4 1=[a1]∧sl p 5 1=[a2])):=by
 refine Zc Try.func45 24 fun T hT=>?_;have bc:T 0=Eg e:=hT 0;have a:St w (qac []) M [] w:=Zq hA;rw [qn6] at b;refine Qv ?_;refine Qk<|Yx (v:= Eg e) (cs:=e) bc rfl a fun s w2 db a=>Qk (Zb qyc a ?_);intro y _ _ a;have ah:rep M (Zr.zc GEntry) (Zr.zd:GEntry):=Zr.zr;refine Qj<|Qr<|Yz [El s e 30] [16,18,20,22,24] Z0 a fun w6 a z k=>Qu 0 rfl (Qi Kf rfl) k ?_;obtain ⟨v9,bd,be⟩:=(Y2 (rr i));refine Y8 1 rfl (Qh v9 Vc rfl (Yp 0 rfl) bd) k<|Qu 3 rfl (Qi Ji rfl) k ?_;obtain ⟨a4,bg,ak⟩:=(Vx (rr i));refine Y8 4 rfl (Qh a4 Zz rfl (Yp 0 rfl) bg) k<|Qu 6 rfl (Qi Ja rfl) k ?_;obtain ⟨a5,bh,al⟩:=(Vm (rr i));refine Y8 7 rfl (Qh a5 Zz rfl (Yp 0 rfl) bh) k<|Qu 9 rfl (Qi Vn rfl) k ?_;obtain ⟨a6,bi,am⟩:=(Yg (rr i));refine Y8 10 rfl (Qh a6 Zz rfl (Yp 0 rfl) bi) k<|Qu 12 rfl (Qi Kb rfl) k ?_;obtain ⟨a7,bj,an⟩:=(Yy (rr i));refine Y8 13 rfl (Qh a7 Zz rfl (Yp 0 rfl) bj) k ?_;obtain ⟨bk,bl,b⟩:=Qa b;refine w1 2 rfl (Zi (vs:=[v9]) (L:=[]) (R:=[El y (Zr.zc GEntry) 30,El s e 30]) (rv:=(fun f u g=>∃ c,u=c∧g=[.row c 65 3]∧repL f c bk)) q6w (Zn rfl) a (a.sel [0,1] Ed rfl) (fun a=>qmi a.agree be bl) ?_);rintro n _ _ _ d ⟨_,rfl,bm,aa⟩ a;replace a:=a _ bm;replace ak:=Qo d.1 ak;refine Yw a (z.trans d) fun bn=>Qu 15 rfl (Qi Kf rfl) bn ?_;obtain ⟨bo,bp,b⟩:=Qa b;refine w1 5 rfl (Zi (vs:=[a4]) (L:=[]) (R:=[.row n 65 3,El y (Zr.zc GEntry) 30,El s e 30]) (rv:=(fun f u g=>∃ c,u=c∧g=[.row c 3 1]∧repL f c bo)) U1 (Zn rfl) a (a.sel [0,1,2] Ed rfl) (fun a=>Yn a.agree ak bp) ?_);rintro q _ _ _ h ⟨_,rfl,bq,ab⟩ a;replace a:=a _ bq;replace al:=Qo (d.1.trans h.1) al;refine Yw a (z.trans (d.trans h)) fun dn=>?_;obtain ⟨br,bs,b⟩:=Qa b;refine w1 8 rfl (Zi (vs:=[a5]) (L:=[]) (R:=[.row q 3 1,.row n 65 3,El y (Zr.zc GEntry) 30,El s e 30]) (rv:=(fun f u g=>∃ c,u=c∧g=[.row c 3 1]∧repL f c br)) U1 (Zn rfl) a (a.sel [0,1,2,3] Ed rfl) (fun a=>Yn a.agree al bs) ?_);rintro t _ _ _ l ⟨_,rfl,bu,ac⟩ a;replace a:=a _ bu;replace am:=Qo (d.1.trans (h.1.trans l.1)) am;refine Yw a (z.trans (d.trans (h.trans l))) fun dt=>?_;obtain ⟨bv,bw,b⟩:=Qa b;refine w1 11 rfl (Zi (vs:=[a6]) (L:=[]) (R:=[.row t 3 1,.row q 3 1,.row n 65 3,El y (Zr.zc GEntry) 30,El s e 30]) (rv:=(fun f u g=>∃ c,u=c∧g=[.row c 3 1]∧repL f c bv)) U1 (Zn rfl) a (a.sel [0,1,2,3,4] Ed rfl) (fun a=>Yn a.agree am bw) ?_);rintro ad _ _ _ m ⟨_,rfl,bx,ae⟩ a;replace a:=a _ bx;replace an:=Qo (d.1.trans (h.1.trans (l.1.trans m.1))) an;refine Yw a (z.trans (d.trans (h.trans (l.trans m)))) fun dy=>?_;obtain ⟨bz,b0,b⟩:=Qa b;refine w1 14 rfl (Zi (vs:=[a7]) (L:=[]) (R:=[.row ad 3 1,.row t 3 1,.row q 3 1,.row n 65 3,El y (Zr.zc GEntry) 30,El s e 30]) (rv:=(fun f u g=>∃ c,u=c∧g=[.row c 3 1]∧repL f c bz)) U1 (Zn rfl) a (a.sel [0,1,2,3,4,5] Ed rfl) (fun a=>Yn a.agree an b0) ?_);rintro ai b1 _ _ o ⟨_,rfl,b2,ao⟩ a;replace a:=a _ b2;replace i:=Ag (d.1.trans (h.1.trans (l.1.trans (m.1.trans o.1)))) i;replace ah:=Ag (d.1.trans (h.1.trans (l.1.trans (m.1.trans o.1)))) ah;replace aa:=Qo (h.1.trans (l.1.trans (m.1.trans o.1))) aa;replace ab:=Qo (l.1.trans (m.1.trans o.1)) ab;replace ac:=Qo (m.1.trans o.1) ac;replace ae:=Qo o.1 ae;refine Yw a (z.trans (d.trans (h.trans (l.trans (m.trans o))))) fun d2=>?_;obtain ⟨_,b4,b⟩:=Qa b;refine w1 16 rfl (Z9 6 1 a rfl i rfl rfl (Qp aa) (Q6 aa) rfl (GEntry.u1 (rr i) (Lf (Y2 (rr i)) (Qp aa))) b4 ?_);intro _ _ ap _ b6 a;have b7:=b6;refine ⟨nB,?_⟩;refine wy 17 rfl (Qi Ji rfl) nB ?_;obtain ⟨_,b8,b⟩:=Qa b;refine w1 18 rfl (Z9 6 1 a rfl ap rfl rfl (Qp ab) (Q6 ab) rfl (GEntry.u2 (rr ap) (Lf (Vx (rr ap)) (Qp ab))) b8 ?_);intro _ _ aq b9 ca a;have cb:=(b9 Ec).trans b7;have cc:=ca;refine ⟨nB,?_⟩;refine wy 19 rfl (Qi Ja rfl) nB ?_;obtain ⟨_,cd,b⟩:=Qa b;refine w1 20 rfl (Z9 6 1 a rfl aq rfl rfl (Qp ac) (Q6 ac) rfl (GEntry.u3 (rr aq) (Lf (Vm (rr aq)) (Qp ac))) cd ?_);intro _ _ ar a8 ce a;have cf:=(a8 Ec).trans cb;have cg:=(a8 Ec).trans cc;have ch:=ce;refine ⟨nB,?_⟩;refine wy 21 rfl (Qi Vn rfl) nB ?_;obtain ⟨_,ci,b⟩:=Qa b;refine w1 22 rfl (Z9 6 1 a rfl ar rfl rfl (Qp ae) (Q6 ae) rfl (Js (rr ar) (Lf (Yg (rr ar)) (Qp ae))) ci ?_);intro _ _ au av cj a;have ck:=(av Ec).trans cf;have cl:=(av Ec).trans cg;have cm:=(av Ec).trans ch;have cn:=cj;refine ⟨nB,?_⟩;refine wy 23 rfl (Qi Kb rfl) nB ?_;obtain ⟨_,co,b⟩:=Qa b;refine w1 24 rfl (Z9 6 1 a rfl au rfl rfl (Qp ao) (Q6 ao) rfl (Jt (rr au) (Lf (Yy (rr au)) (Qp ao))) co ?_);intro af _ cp aj cq a;have cr:=(aj Ec).trans ck;have ct:=(aj Ec).trans cl;have cu:=(aj Ec).trans cm;have cv:=(aj Ec).trans cn;have cw:=cq;refine ⟨nB,?_⟩;refine wd<|Qe<|Qv ?_;have aw:=(rr cp);have cx:sl (sl af (0) 6) 1 1=[n]:=(V0 Ed).trans cr;have cy:sl (sl af (0) 6) 2 1=[q]:=(V0 Ed).trans ct;have c1:sl (sl af (0) 6) 3 1=[t]:=(V0 Ed).trans cu;have c2:sl (sl af (0) 6) 4 1=[ad]:=(V0 Ed).trans cv;have c3:sl (sl af (0) 6) 5 1=[ai]:=(V0 Ed).trans cw;refine Qb (Q8 q1a rfl (a.bvB 6 rfl) (Xg aw)) ?_;obtain ⟨_,c4,b⟩:=Qa b;refine Qk (Z1 5 6 a ah aw (Lf (rr ah) aw) c4 ?_);intro x _ a9 _ ag a;have c5:sl x (0+1) 1=[n]:=V1 ag cx Ed;have c6:sl x (0+2) 1=[q]:=V1 ag cy Ed;have c7:sl x (0+3) 1=[t]:=V1 ag c1 Ed;have c8:sl x (0+4) 1=[ad]:=V1 ag c2 Ed;have c9:sl x (0+5) 1=[ai]:=V1 ag c3 Ed;refine Qj ?_;cases b;exact Qz (Ky (j:=5) rfl rfl (Kk q1a a9) a rfl ⟨_,b1,_,rfl,(d.trans (h.trans (l.trans (m.trans o)))),(a.sel (H':=[.row n 65 3,.row q 3 1,.row t 3 1,.row ad 3 1,.row ai 3 1]) [4,3,2,1,0] Ed rfl),x,n,q,t,ad,ai,rfl,rfl,a9,c5,c6,c7,c8,c9⟩)
theorem qxi {c:Nat} {d:Em} {z:GCluster} {e:Int} {r:GCase} (a:St w (qac [El c d 90]) M [El c d 90] w) (af:rep M d z) (b:qgc fu z e=some r) :
    Calls Try.prog 20 #[Eh c,Ef e] w (qa8 M w [El c d 90] (fun n u o=>∃ c0 ay az,u=Eg c0∧o=[El c d 90,.row ay 65 3,.row az 3 1]∧rep n c0 r∧sl c0 2 1=[ay]∧sl c0 15 1=[az])):=by
 refine Zc Try.func20 32 fun T hT=>?_;have ag:T 0=Eh c:=hT 0;have ab:T 1=Ef e:=hT 1;rw [qgc] at b;refine Qv ?_;refine Qk (Zb Xc a ?_);intro l _ _ a;have p:rep M (Zr.zc GCase) (Zr.zd:GCase):=Zr.zr;refine Qj ?_;refine Qq (fun f w'=>∃ q s d9,Mm.ext w.heap.size (qac [El c d 90]) M q∧St w (qac [El c d 90]) q [El l s 49,El c d 90] w'∧rep q s d9∧f 0=Eh c∧f 1=Ef e∧f 4=Eh l∧qgv fu z e d9=some r) ?_ ?_;refine Qq (fun f w'=>∃ g aj,Mm.ext w.heap.size (qac [El c d 90]) M g∧St w (qac [El c d 90]) g [El l (Zr.zc GCase) 49,El c d 90] w'∧f 0=Eh c∧f 1=Ef e∧f 4=Eh l∧f 15= .bool aj∧qfy fu z e aj=some r) ?_ ?_;refine Q2<|Zj ag<|Qb (Je rfl rfl Ys)<|Qb (Qd (.bool false) rfl)<|Yh (Qd _ ab)<|Yh (Zt rfl rfl)<|Qt 2 rfl ?_;rcases ic b with ⟨a1,b⟩ | ⟨a1,b⟩<;>rw [a1];refine Qt 3 rfl<|Qj ?_;exact ⟨M,true,(Qc _ _ _),a,ag,ab,rfl,rfl,b⟩;refine Qg rfl rfl (Qd _ ab)<|Qg rfl rfl (Vb rfl rfl)<|Qb (Q3 (.bool (decide (e≥32))) rfl rfl)<|Qj ?_;exact ⟨M,(decide (e≥32)),(Qc _ _ _),a,ag,ab,rfl,rfl,b⟩;rintro _ _ ⟨g,aj,ak,a,bg,bh,al,bi,b⟩;replace p:=Zd ak p;rw [qfy] at b;refine Q5 b bi (fun bj b=>?_) fun bj b=>?_;refine Qv ?_;obtain ⟨bk,bl,b⟩:=Qa b;obtain ⟨a2,am,a3⟩:∃ cs,qau (([(0,1),(1,1),(2,1),(3,6),(9,6),(15,1),(16,4),(20,4)]:List (Nat × Nat))[·]?) (Zr.zc GCase) []=some cs∧rep g cs bk:=⟨_,Yb,Yc (x:=({ begun:=Zr.zd,fixed:=Zr.zd,ops:=Zr.zd,told:=Zr.zd,known:=Zr.zd,deps:=Zr.zd,has:=Zr.zd,values:=Zr.zd }:GCase)) (Zr.zr:rep g (Zr.zc GCase) (Zr.zd:GCase)) bl⟩;have bm:sl a2 2 1=[.slice none 0 0]:=(Y5 am (by rfl)).trans (by rfl);replace a:=a.nilRow 65 3;have bn:sl a2 15 1=[.slice none 0 0]:=(Y5 am (by rfl)).trans (by rfl);replace a:=a.nilRow 3 1;refine Qb (Zl [] q6h Vi am) ?_;obtain ⟨_,bo,b⟩:=Qa b;refine Qk (Z9 2 24 a rfl p al rfl a3 rfl rfl (Lf (rr p) a3) bo ?_);intro an _ a4 _ a5 a;have bp:sl an (0+2) 1=[(.slice none 0 0)]:=V1 a5 bm Ed;have bq:sl an (0+15) 1=[(.slice none 0 0)]:=V1 a5 bn Ed;refine Qj ?_;cases b;exact Qz (Ky (j:=2) rfl al (Kk Va a4) a rfl ⟨_,g,_,rfl,ak,(a.sel (H':=[El c d 90,.row (.slice none 0 0) 65 3,.row (.slice none 0 0) 3 1]) [3,1,0] Ed rfl),an,(.slice none 0 0),(.slice none 0 0),rfl,rfl,a4,bp,bq⟩);refine Ql<|Qe ?_;exact ⟨g,(Zr.zc GCase),(Zr.zd:GCase),ak,a,p,bg,bh,al,b⟩;rintro _ _ ⟨q,s,d9,a6,a,ac,br,bs,a7,b⟩;replace af:=Zd a6 af;rw [qgv] at b;refine Qv<|Zj br<|Zj bs<|Qb (Q0 rfl)<|Qb (Qi Jc rfl) ?_;obtain ⟨bu,bv,b⟩:=Qm b;refine Qb (Za Xf rfl rfl bu bv) ?_;obtain ⟨_,bw,b⟩:=Qa b;have ao:=(vp (k:=24) rfl rfl (Yj (rr af)) bw);refine Qb (Q8 Va rfl (a.bvB 1 rfl) (Xg ao)) ?_;refine Qk (Zb Xc a ?_);intro ap _ _ a;have a8:rep q (Zr.zc GCase) (Zr.zd:GCase):=Zr.zr;have c4:sl (Zr.zc GCase) 2 1=[.slice none 0 0]:=by rfl
 replace a:=a.nilRow 65 3;have c5:sl (Zr.zc GCase) 15 1=[.slice none 0 0]:=by rfl
 replace a:=a.nilRow 3 1;obtain ⟨_,bx,b⟩:=Qa b;refine Qk (Z1 2 24 a a8 ao (Lf (rr a8) ao) bx ?_);intro aq _ h _ _ a;refine Qj<|Qr<|Yz [El ap aq 49] [7,9] Z0 a fun da a a9 ad=>Qu 0 rfl (Qi Vk rfl) ad ?_;obtain ⟨ba,bz,b0⟩:=(Yq (rr h));refine Y8 1 rfl (Qh ba Vc rfl (Yp 0 rfl) bz) ad<|Qu 3 rfl (Qi Kz rfl) ad ?_;obtain ⟨bb,b1,ar⟩:=(Vt (rr h));refine Y8 4 rfl (Qh bb Zz rfl (Yp 0 rfl) b1) ad ?_;obtain ⟨b2,b3,b⟩:=Qa b;refine w1 2 rfl (Zi (vs:=[ba]) (L:=[]) (R:=[.row (.slice none 0 0) 3 1,.row (.slice none 0 0) 65 3,El ap aq 49,El l s 49,El c d 90]) (rv:=(fun n u o=>∃ i,u=i∧o=[.row i 65 3]∧repL n i b2)) q6w (Zn rfl) a (a.sel [0,1,2,3,4] Ed rfl) (fun a=>qmi a.agree b0 b3) ?_);rintro t _ _ _ m ⟨_,rfl,b5,v⟩ a;replace a:=a _ b5;replace ar:=Qo m.1 ar;refine Yw a (a9.trans m) fun b6=>Qu 6 rfl (Qi Vk rfl) b6 ?_;obtain ⟨b7,b8,b⟩:=Qa b;refine w1 5 rfl (Zi (vs:=[bb]) (L:=[]) (R:=[.row t 65 3,.row (.slice none 0 0) 3 1,.row (.slice none 0 0) 65 3,El ap aq 49,El l s 49,El c d 90]) (rv:=(fun n u o=>∃ i,u=i∧o=[.row i 3 1]∧repL n i b7)) U1 (Zn rfl) a (a.sel [0,1,2,3,4,5] Ed rfl) (fun a=>Yn a.agree ar b8) ?_);rintro ae b9 _ _ y ⟨_,rfl,ca,au⟩ a;replace a:=a _ ca;replace ac:=Zd (m.trans y) ac;replace h:=Zd (m.trans y) h;replace v:=Qo y.1 v;refine Yw a (a9.trans (m.trans y)) fun di=>?_;obtain ⟨_,cb,b⟩:=Qa b;refine w1 7 rfl (Z9 4 1 a rfl h rfl rfl (Qp v) (Q6 v) rfl (GCase.u2 (rr h) (Lf (Yq (rr h)) (Qp v))) cb ?_);intro _ _ av _ cc a;have cd:=cc;refine ⟨nB,?_⟩;refine wy 8 rfl (Qi Kz rfl) nB ?_;obtain ⟨_,ce,b⟩:=Qa b;refine w1 9 rfl (Z9 4 1 a rfl av rfl rfl (Qp au) (Q6 au) rfl (GCase.u5 (rr av) (Lf (Vt (rr av)) (Qp au))) ce ?_);intro bc _ cf cg ch a;have ci:=(cg Ec).trans cd;have cj:=ch;refine ⟨nB,?_⟩;refine wd<|Qe<|Qv ?_;have aw:=(rr cf);have ck:sl (sl bc (0) 24) 2 1=[t]:=(V0 Ed).trans ci;have cl:sl (sl bc (0) 24) 15 1=[ae]:=(V0 Ed).trans cj;refine Qb (Q8 Va rfl (a.bvB 4 rfl) (Xg aw)) ?_;obtain ⟨_,cm,b⟩:=Qa b;refine Qk (Z9 5 24 a rfl ac a7 rfl aw rfl rfl (Lf (rr ac) aw) cm ?_);intro ax _ bd _ be a;have cn:sl ax (0+2) 1=[t]:=V1 be ck Ed;have co:sl ax (0+15) 1=[ae]:=V1 be cl Ed;refine Qj ?_;cases b;exact Qz (Ky (j:=5) rfl a7 (Kk Va bd) a rfl ⟨_,b9,_,rfl,(a6.trans (m.trans y)),(a.sel (H':=[El c d 90,.row t 65 3,.row ae 3 1]) [6,1,0] Ed rfl),ax,t,ae,rfl,rfl,bd,cn,co⟩)
theorem qz0 {c:Nat} {a:Em} {b:Value} {d:Em} {e:GCluster} {m:List ByteArray} {r:(List ByteArray) × (List ByteArray)} (f:St w (qac [El c a 90,.stk b 9 1 d]) M [El c a 90,.stk b 9 1 d] w) (aa:rep M a e) (g:skr M b d m) (n:sl a 1993 1=[b]) (h:qio fu e m=some r) :
    Calls Try.prog 32 #[Eh c] w (qa8 M w [El c a 90,.stk b 9 1 d] (fun o u s=>∃ i k e,u=i∧s=[El c a 90,.stk k 9 1 e,.row i 9 1]∧repL o i r.1∧skr o k e r.2∧sl a 1993 1=[k])):=by
 refine Zc Try.func32 10 fun T t=>?_;have p:T 0=Eh c:=t 0;rw [qio] at h;refine Qv<|Qb (Qf ((.slice none 0 0)) rfl)<|Qj<|Qr<|Qv<|Zj p<|Qb (Je rfl rfl Ys)<|Qj<|Uu rfl<|Ql<|Qe<|Qv<|Zj p<|Qb (Q0 rfl)<|Qb (Qi K0 rfl)<|Qb (Qh b q1b rfl (f.bvB 0 rfl) n) ?_;obtain ⟨_,v,h⟩:=Qa h;refine Qk (qzv (j:=1) cb59 (Zn rfl) f rfl g (fun x hv=>qmh x hv v) ?_);intro l y _ q z f;replace g:=Q7 q.1 g;refine Qb (Qf (l) rfl)<|Qj ?_;cases h;exact Qz (Yk rfl rfl ⟨_,y,_,rfl,q,(f.sel (H':=[El c a 90,.stk b 9 1 d,.row l 9 1]) [1,2,0] Ed rfl),l,b,d,rfl,rfl,z,g,n⟩)
theorem qpm {c:Em} {d:GCase} {r:(List Int) × Bool} (hA:Agree M w) (e:rep M c d) (a:qdh fu d=some r) :
    Calls Try.prog 28 #[Eg c] w (qa8 M w [] (fun t u x=>∃ k,u= .tuple #[k,.bool r.2]∧x=[.row k 3 1]∧repL t k r.1)):=by
 refine Zc Try.func28 27 fun T hT=>?_;have ar:T 0=Eg c:=hT 0;have b:St w (qac []) M [] w:=Zq hA;rw [qdh] at a;refine Qv ?_;refine Qk<|Yx (v:= Eg c) (cs:=c) ar rfl b fun g w2 bk b=>Qt 2 rfl<|Qj ?_;refine Qq (fun i m=>∃ n,Mm.ext w.heap.size (qac []) M n∧St w (qac []) n [El g c 49] m∧i 1=Eh g∧qc2 fu d=some r) ?_ ?_;refine Qq (fun i m=>∃ o y,Mm.ext w.heap.size (qac []) M o∧St w (qac []) o [El g c 49] m∧i 1=Eh g∧i 12= .bool y∧qch fu d y=some r) ?_ ?_;refine Q2<|Qb (Qi Uz rfl)<|Qb (Qh (.bool d.begun) J3 rfl (b.bvB 0 rfl) (Jl (rr e)))<|Qb (Ye rfl)<|Qb (Qd (.bool (!d.begun)) rfl) ?_;rcases ic a with ⟨ag,a⟩ | ⟨ag,a⟩<;>rw [ag];refine Qt 4 rfl<|Qj ?_;exact ⟨M,true,(Qc _ _ _),b,rfl,rfl,a⟩;have ah:=(rr e);refine Qg rfl rfl (Q8 Va rfl (b.bvB 0 rfl) (Xg ah)) ?_;obtain ⟨z,au,a⟩:=Qa a;refine Kc rfl rfl<|Z3 (vs:=[Eg (sl c (0) 24)]) (v:= .bool z) q7u (Zn rfl) b (qha b.agree ah au) fun bl b=>Qg rfl rfl (Ye rfl)<|Qb (Q3 (.bool (!z)) rfl rfl)<|Qj ?_;exact ⟨M,(!z),(Qc _ _ _),b,rfl,rfl,a⟩;rintro _ _ ⟨o,y,ai,b,av,aw,a⟩;rw [qch] at a;refine Q5 a aw (fun ax a=>?_) fun ax a=>?_;refine Qv<|Qt 2 rfl<|Qj ?_;replace b:=b.nilRow 3 1;cases a;exact Qz (Xa rfl rfl rfl ⟨_,o,_,rfl,ai,(b.sel (H':=[.row (.slice none 0 0) 3 1]) [0] Ed rfl),(.slice none 0 0),rfl,rfl,(Z8 _)⟩);refine Ql<|Qe ?_;exact ⟨o,ai,b,av,a⟩;rintro _ _ ⟨n,aa,b,ay,a⟩;replace e:=Zd aa e;rw [qc2] at a;refine Qr<|Qv<|Qb (Qd (Ef 0) rfl)<|Qj<|Qs ?_;refine Z6 (fun ab i m=>∃ p j,Mm.ext w.heap.size (qac []) n p∧St w (qac []) p [El g c 49] m∧i 1=Eh g∧i 13=Ef j∧qaz fu d ab j=some r) fu ?_ ?_ ?_;exact ⟨n,(0:Int),(Qc _ _ _),b,ay,rfl,a⟩;rintro i m ⟨_,_,_,_,_,_,a⟩;rw [qaz] at a;cases a;intro ab;rintro _ _ ⟨p,j,q,b,s,ac,a⟩;replace e:=Zd q e;rw [qaz] at a;obtain ⟨_,aj⟩:∃ f,f=qaz fu d ab:=⟨_,rfl⟩;rw [← aj] at a;refine Qv<|Qb (Zt ac rfl)<|Qj<|Qr ?_;refine Q5 a rfl (fun az a=>?_) fun az a=>?_;refine Ql<|Qe<|Qr<|Qs<|Qv<|Zj ac<|Qb (Qf (Ef j) rfl)<|Qj<|Qv ?_;have ak:=(rr e);refine Qb (Q8 Va s (b.bvB 0 rfl) (Xg ak))<|Qb (Qd (Ef j) rfl) ?_;obtain ⟨a0,a1,a⟩:=Qa a;refine Qk<|Z3 (vs:=[Eg (sl c (0) 24),Ef j]) (v:= .bool a0) q86 (Zv rfl rfl) b (qrc b.agree ak a1) fun bu b=>Qb (Ye rfl)<|Qj ?_;refine Q5 a rfl (fun a2 a=>?_) fun a2 a=>?_;refine Qv<|Qt 2 rfl<|Qj ?_;replace b:=b.nilRow 3 1;cases a;exact Qz (Xa rfl rfl rfl ⟨_,p,_,rfl,(aa.trans q),(b.sel (H':=[.row (.slice none 0 0) 3 1]) [0] Ed rfl),(.slice none 0 0),rfl,rfl,(Z8 _)⟩);refine Ql<|Q9<|Qe<|Q2<|Qb (Z2 ac rfl)<|Qb (Qd (Ef (IntKind.wrap .i64 (j+1))) rfl)<|Qj ?_;exact ⟨p,(IntKind.wrap .i64 (j+1)),q,b,s,rfl,(by rw [← aj];exact a)⟩;refine Zx<|Qw<|Qw<|Zy<|Qe<|Qv<|Qb (Qi qp3 s)<|Qb (Qi Vk s) ?_;obtain ⟨a3,a4,a5⟩:=(Yq (rr e));refine Qb (Qh a3 Vc rfl (b.bvB 0 rfl) a4) ?_;obtain ⟨_,_,a6,_⟩:=Qy a5;refine Qb (Zh Zm (V3 a6 rfl)) ?_;have ad:=(Jn (rr e));have bx:(c).length=24:=Xg e;obtain ⟨a7,a8,al,b⟩:=St.freeze 0 b rfl;replace ad:=Zd al ad;have a9:repL a7 (.slice (some ⟨g,0+20,none⟩) 4 4) d.values.toList:=qvv a8 (show _+4*1≤_ by omega) ad Ed;obtain ⟨ba,ae,a⟩:=Qa a;obtain ⟨⟨am,an⟩,af,ae⟩:=Ab.1 ae;have bb:repL _ (qi8 (.slice (some ⟨g,0+20,none⟩) 4 4) 1 am an) ba:=ae ▸ qq1 a9 af;rw [show d.values.toList.length=4 from by simp] at af;refine Qb (q2w (l:=none) (h:=(some (d.ops.length:Int))) q7n rfl evn (evs rfl) af) ?_;obtain ⟨bc,bd,a⟩:=Qa a;refine Qk (Zi (vs:=[(qi8 (.slice (some ⟨g,0+20,none⟩) 4 4) 1 am an)]) (L:=[]) (R:=[]) (rv:=(fun t u x=>∃ k,u=k∧x=[.row k 3 1]∧repL t k bc)) U1 (Zn rfl) b (b.sel [] Ed rfl) (fun b=>Yn b.agree bb bd) ?_);rintro ao be _ _ bg ⟨_,rfl,bh,bi⟩ b;replace b:=b _ bh;refine Qt 2 rfl<|Qj ?_;cases a;exact Qz (Xa rfl rfl rfl ⟨_,be,_,rfl,(aa.trans (q.trans (al.trans bg))),(b.sel (H':=[.row ao 3 1]) [0] Ed rfl),ao,rfl,rfl,bi⟩)
theorem qqb {e:Nat} {f:Em} {i:GCluster} {d:Int} {r:GReply} (b:St w (qac [El e f 90]) M [El e f 90] w) (s:rep M f i) (a:qir fu i d=some r) :
    Calls Try.prog 51 #[Eh e,Ef d] w (qa8 M w [El e f 90] (fun t u x=>∃ vP xP,u=Eg ([Ef r.code,Ef r.n,vP]:Em)∧x=[El e f 90,.stk vP 3 1 xP]∧skr t vP xP r.values)):=by
 refine Zc Try.func51 20 fun T m=>?_;have y:T 0=Eh e:=m 0;have o:T 1=Ef d:=m 1;rw [qir] at a;refine Qv ?_;refine Qk (Zb U5 b ?_);intro _ _ _ b;have z:rep M (Zr.zc GReply) (Zr.zd:GReply):=Zr.zr;refine Qj<|Qv<|Zj y<|Zj o<|Qb (Q0 rfl)<|Qb (Qi Jc rfl) ?_;obtain ⟨aa,ab,a⟩:=Qm a;refine Qb (Za Xf rfl rfl aa ab) ?_;obtain ⟨_,ac,a⟩:=Qa a;have p:=(vp (k:=24) rfl rfl (Yj (rr s)) ac);refine Qb (Q8 Va rfl (b.bvB 1 rfl) (Xg p)) ?_;obtain ⟨g,ad,a⟩:=Qa a;refine Qk<|q4r (vs:=[Eg (sl f (0+1224+Int.toNat d*24) 24)]) (l:=g.1) (bb:=g.2) cb28 (Zn rfl) b (qpm b.agree p ad) fun c q al h b=>Qb (Qd (.tuple #[c,.bool g.2]) rfl)<|Qb (Q1 (v:=c) rfl rfl)<|Qb (Q1 (v:= .bool g.2) rfl rfl)<|Qt 2 rfl<|Qj<|Qv<|Zj o<|Qb (Qd (c) rfl) ?_;obtain ⟨_,ae,a⟩:=Qa a;obtain rfl:=Xq ae;have af:qau (([(0,1),(1,1),(2,1)]:List (Nat × Nat))[·]?) (Zr.zc GReply) [(1,Ef d),(2,c)]=some ([Ef (Zr.zd:Int),Ef d,c]:Em):=q18 (Jr h);refine Qb (Zl [(1,Ef d),(2,c)] K1 (Y4 rfl (Y4 rfl Vi)) af) ?_;obtain ⟨_,ag,a⟩:=Qa a;obtain rfl:=Xq ag;refine Qk<|Kh (ws:=[Ef (Zr.zd:Int),Ef d,c]) 1 b rfl rfl rfl rfl (Xg z) (Vp h) fun ao b=>Qj ?_;cases a;exact Qz (Ky (j:=1) (cs:=[Ef (Zr.zd:Int),Ef d,c]) rfl rfl Vo b rfl ⟨_,M,_,rfl,(Qc _ _ _),(b.sel (H':=[El e f 90,.stk c 3 1 q]) [2,0] Ed rfl),c,q,rfl,rfl,h⟩)
theorem qrj {a:Int} {r:GReply} (e:Agree M w)  (c:quy fu a=some r) :
    Calls Try.prog 46 #[Ef a] w (qa8 M w [] (fun f u g=>∃ vP xP,u=Eg ([Ef r.code,Ef r.n,vP]:Em)∧g=[.stk vP 3 1 xP]∧skr f vP xP r.values)):=by
 refine Zc Try.func46 5 fun T h=>?_;have i:T 0=Ef a:=h 0;have b:St w (qac []) M [] w:=Zq e;rw [quy] at c;refine Qv ?_;refine Qk (Zb U5 b ?_);intro _ _ _ b;have k:rep M (Zr.zc GReply) (Zr.zd:GReply):=Zr.zr;refine Qj<|Qv<|Zj i ?_;obtain ⟨_,l,c⟩:=Qa c;obtain rfl:=Xq l;replace b:=b.nilStk 3 1;have d:skr M (.slice none 0 0) [] ([]:List Int):=V6;have m:qau (([(0,1),(1,1),(2,1)]:List (Nat × Nat))[·]?) (Zr.zc GReply) [(0,Ef a)]=some ([Ef a,Ef (Zr.zd:Int),(.slice none 0 0)]:Em):=rfl;refine Qb (Zl [(0,Ef a)] K1 (Y4 rfl Vi) m) ?_;obtain ⟨_,o,c⟩:=Qa c;obtain rfl:=Xq o;refine Qk<|Kh (ws:=[Ef a,Ef (Zr.zd:Int),(.slice none 0 0)]) 1 b rfl rfl rfl rfl (Xg k) (Vp d) fun x b=>Qj ?_;cases c;exact Qz (Ky (j:=1) (cs:=[Ef a,Ef (Zr.zd:Int),(.slice none 0 0)]) rfl rfl Vo b rfl ⟨_,M,_,rfl,(Qc _ _ _),(b.sel (H':=[.stk (.slice none 0 0) 3 1 []]) [0] Ed rfl),(.slice none 0 0),[],rfl,rfl,d⟩)
theorem qu2 {d:Nat} {g:Em} {h:Value} {i:Em} {y:Value} {c:GCluster} {l3:List ByteArray} {x4:List GOp} {r:GReply × GCluster × (List ByteArray)} (a:St w (qac [El d g 90,.stk h 9 1 i]) M [El d g 90,.stk h 9 1 i] w) (f:rep M g c) (z:skr M h i l3) (af:sl g 1993 1=[h]) (ag:repL M y x4) (b:qhm fu c l3 x4=some r) :
    Calls Try.prog 47 #[Eh d,y] w (qa8 M w [El d g 90,.stk h 9 1 i] (fun l u L'=>∃ vP xP p q c,u=Eg ([Ef r.1.code,Ef r.1.n,vP]:Em)∧L'=[El d p 90,.stk q 9 1 c,.stk vP 3 1 xP]∧skr l vP xP r.1.values∧rep l p r.2.1∧skr l q c r.2.2∧sl p 1993 1=[q])):=by
 refine Zc Try.func47 54 fun T hT=>?_;have s:T 0=Eh d:=hT 0;have a6:T 1=y:=hT 1;rw [qhm] at b;refine Qv ?_;refine Qk (Zb U5 a ?_);intro b6 _ _ a;have t:rep M (Zr.zc GReply) (Zr.zd:GReply):=Zr.zr;refine Qj<|Qr<|Qv<|Zj s<|Qb (Q0 rfl)<|Qb (Qi Kq rfl)<|Qb (Qh (Ef c.begun) Z5 rfl (a.bvB 1 rfl) (Yv (rr f)))<|Qb (Vb rfl rfl)<|Qj ?_;refine Q5 b rfl (fun a8 b=>?_) fun a8 b=>?_;refine Qv ?_;obtain ⟨_,a9,b⟩:=Qa b;obtain rfl:=Xq a9;replace a:=a.nilStk 3 1;have am:skr M (.slice none 0 0) [] ([]:List Int):=V6;have ba:qau (([(0,1),(1,1),(2,1)]:List (Nat × Nat))[·]?) (Zr.zc GReply) [(0,Ef 5)]=some ([Ef 5,Ef (Zr.zd:Int),(.slice none 0 0)]:Em):=rfl;refine Qb (Zl [(0,Ef 5)] K1 (Y4 rfl Vi) ba) ?_;obtain ⟨_,bb,b⟩:=Qa b;obtain rfl:=Xq bb;refine Qk<|Kh (ws:=[Ef 5,Ef (Zr.zd:Int),(.slice none 0 0)]) 1 a rfl rfl rfl rfl (Xg t) (Vp am) fun ci a=>Qj ?_;cases b;exact Qz (Ky (j:=1) (cs:=[Ef 5,Ef (Zr.zd:Int),(.slice none 0 0)]) rfl rfl Vo a rfl ⟨_,M,_,rfl,(Qc _ _ _),(a.sel (H':=[El d g 90,.stk h 9 1 i,.stk (.slice none 0 0) 3 1 []]) [2,3,0] Ed rfl),(.slice none 0 0),[],g,h,i,rfl,rfl,am,f,z,af⟩);refine Ql<|Qe<|Qv<|Zj s<|Qb (Q0 rfl)<|Qb (Qi Kq rfl)<|Qb (Qh (Ef c.begun) Z5 rfl (a.bvB 1 rfl) (Yv (rr f)))<|Zj a6 ?_;have an:=GTxn.w0 (Zr.zr:rep M (Zr.zc GTxn) (Zr.zd:GTxn)) (ri c.begun:rep M _ _);have bc:=GTxn.w1 an (Qp ag);obtain ⟨bd,be,b⟩:=Qa b;obtain ⟨bg,bh,bi⟩:∃ cs,qau (([(0,1),(1,1)]:List (Nat × Nat))[·]?) (Zr.zc GTxn) [(0,Ef c.begun),(1,y)]=some cs∧rep M cs bd:=⟨_,(Ze (Zr.zr:rep M (Zr.zc GTxn) (Zr.zd:GTxn)) rfl rfl (Xg (ri c.begun:rep M _ _)) Ed (Ze an rfl (Q6 ag) (Xg (Qp ag)) Ed Yb)),Yc (x:=({ id:=c.begun,ops:=x4 }:GTxn)) bc be⟩;refine Qb (Zl [(0,Ef c.begun),(1,y)] q6v (Y4 rfl (Y4 rfl Vi)) bh) ?_;obtain ⟨e,bj,b⟩:=Qa b;refine Qk (Y7 (vs:=[Eg bg]) (rv:=(fun l u=>∃ c0 v1,u= .tuple #[Eg c0,v1,Ef e.2.2]∧rep l c0 e.1∧repL l v1 e.2.1)) cb65 (Zn rfl) a (qmf a.agree bi bj) ?_);intro _ aa _ ab bk a;obtain ⟨aq,ac,bl,ar,bm⟩:=bk;subst bl;replace f:=Zd ab f;replace z:=Q7 ab.1 z;replace t:=Zd ab t;refine Qb (Qd (.tuple #[Eg aq,ac,Ef e.2.2]) rfl)<|Qb (Q1 (v:= Eg aq) rfl rfl)<|Qb (Q1 (v:=ac) rfl rfl)<|Qb (Q1 (v:= Ef e.2.2) rfl rfl) ?_;refine Qk (Zb Xc a ?_);intro au _ _ a;have av:rep aa (Zr.zc GCase) (Zr.zd:GCase):=Zr.zr;obtain ⟨_,bn,b⟩:=Qa b;refine Qk (Z1 0 24 a av ar (Lf (rr av) ar) bn ?_);intro aw _ bo _ _ a;refine Qt 2 rfl<|Qj<|Qr<|Qv<|Qb (Qd (Ef e.2.2) rfl)<|Qb (Yo rfl rfl)<|Qj ?_;refine Q5 b rfl (fun bp b=>?_) fun bp b=>?_;refine Qv<|Qb (Qd (Ef e.2.2) rfl) ?_;obtain ⟨_,bq,b⟩:=Qa b;obtain rfl:=Xq bq;replace a:=a.nilStk 3 1;have ax:skr aa (.slice none 0 0) [] ([]:List Int):=V6;have br:qau (([(0,1),(1,1),(2,1)]:List (Nat × Nat))[·]?) (Zr.zc GReply) [(0,Ef e.2.2)]=some ([Ef e.2.2,Ef (Zr.zd:Int),(.slice none 0 0)]:Em):=rfl;refine Qb (Zl [(0,Ef e.2.2)] K1 (Y4 rfl Vi) br) ?_;obtain ⟨_,bs,b⟩:=Qa b;obtain rfl:=Xq bs;refine Qk<|Kh (ws:=[Ef e.2.2,Ef (Zr.zd:Int),(.slice none 0 0)]) 2 a rfl rfl rfl rfl (Xg t) (Vp ax) fun cu a=>Qj ?_;cases b;exact Qz (Ky (j:=2) (cs:=[Ef e.2.2,Ef (Zr.zd:Int),(.slice none 0 0)]) rfl rfl Vo a rfl ⟨_,aa,_,rfl,ab,(a.sel (H':=[El d g 90,.stk h 9 1 i,.stk (.slice none 0 0) 3 1 []]) [3,4,0] Ed rfl),(.slice none 0 0),[],g,h,i,rfl,rfl,ax,f,z,af⟩);refine Ql<|Qe<|Qr<|Yz [El au aw 49,El d g 90] [9] Z0 a fun cv a cw m=>Qu 0 rfl (Qd _ s) m<|Qu 1 rfl (Qd _ s) m<|Qu 2 rfl (Q0 rfl) m<|Qu 3 rfl (Qi Kq rfl) m<|Y8 4 rfl (Qh (Ef c.begun) Z5 rfl (Yp 1 rfl) (Yv (rr f))) m ?_;have ai:=(rr bo);refine Y8 5 rfl (Q8 Va rfl (Yp 0 rfl) (Xg ai)) m<|Qu 6 rfl (Q0 rfl) m<|Qu 7 rfl (Qi Jc rfl) m ?_;obtain ⟨bu,bv,b⟩:=Qm b;refine Qu 8 rfl (Za Xf rfl rfl bu bv) m ?_;obtain ⟨_,ay,b⟩:=Qa b;obtain ⟨_,bw,b⟩:=Qa b;obtain ⟨aj,bx,b⟩:=Qa b;have c1:=(Zf ay);refine w1 9 rfl (Z1 2 24 a f ai (Uf (rr f) (vu (k:=24) rfl rfl (Yj (rr f)) (Lf (vp (k:=24) rfl rfl (Yj (rr f)) ay) ai) bw)) bx ?_);intro _ _ ad bz _ a;have b0:=(bz Ec).trans af;refine ⟨nB,?_⟩;refine wd<|Qe<|Qv<|Zj s<|Qb (Q0 rfl)<|Qb (Qi Kq rfl)<|Qb (Qh (Ef aj.begun) Z5 rfl (a.bvB 2 rfl) (Yv (rr ad)))<|Qb (Z2 rfl rfl)<|Qb (Q0 rfl)<|Qb (Qi Kq rfl) ?_;obtain ⟨_,b1,b⟩:=Qa b;refine Qk (Z1 2 1 a ad (ri (IntKind.wrap .i64 (aj.begun+1)):rep aa _ _) (GCluster.u5 (rr ad) (Lf (Yv (rr ad)) (ri (IntKind.wrap .i64 (aj.begun+1)):rep aa _ _))) b1 ?_);intro b2 _ b3 b4 _ a;have b5:=(b4 Ec).trans b0;refine Qj<|Qv<|Zj s<|Qb (Qd (ac) rfl) ?_;obtain ⟨o,b7,b⟩:=Qa b;refine Qk (Zi (vs:=[Eh d,ac]) (L:=[El d b2 90,.stk h 9 1 i]) (R:=[El au aw 49,El b6 (Zr.zc GReply) 40]) (rv:=(fun l u L'=>∃ p q c,u= .tuple #[]∧L'=[El d p 90,.stk q 9 1 c]∧rep l p o.1∧skr l q c o.2∧sl p 1993 1=[q])) q4d (Zv rfl rfl) a (a.sel [2,3,0,1] Ed rfl) (fun a=>qfz a b3 z b5 bm b7) ?_);rintro _ az _ _ a0 ⟨a1,a2,a3,rfl,b8,a4,b9,ca⟩ a;replace a:=a _ b8;replace t:=Zd a0 t;refine Qj<|Qv<|Zj s<|Qb (Q0 rfl)<|Qb (Qi Kq rfl)<|Qb (Qh (Ef o.1.begun) Z5 rfl (a.bvB 0 rfl) (Yv (rr a4)))<|Qb (K2 rfl rfl) ?_;obtain ⟨_,cb,b⟩:=Qa b;obtain rfl:=Xq cb;replace a:=a.nilStk 3 1;have a5:skr az (.slice none 0 0) [] ([]:List Int):=V6;have cc:qau (([(0,1),(1,1),(2,1)]:List (Nat × Nat))[·]?) (Zr.zc GReply) [(1,Ef (IntKind.wrap .i64 (o.1.begun-1)))]=some ([Ef (Zr.zd:Int),Ef (IntKind.wrap .i64 (o.1.begun-1)),(.slice none 0 0)]:Em):=rfl;refine Qb (Zl [(1,Ef (IntKind.wrap .i64 (o.1.begun-1)))] K1 (Y4 rfl Vi) cc) ?_;obtain ⟨_,cd,b⟩:=Qa b;obtain rfl:=Xq cd;refine Qk<|Kh (ws:=[Ef (Zr.zd:Int),Ef (IntKind.wrap .i64 (o.1.begun-1)),(.slice none 0 0)]) 4 a rfl rfl rfl rfl (Xg t) (Vp a5) fun dd a=>Qj ?_;cases b;exact Qz (Ky (j:=4) (cs:=[Ef (Zr.zd:Int),Ef (IntKind.wrap .i64 (o.1.begun-1)),(.slice none 0 0)]) rfl rfl Vo a rfl ⟨_,az,_,rfl,(ab.trans a0),(a.sel (H':=[El d a1 90,.stk a2 9 1 a3,.stk (.slice none 0 0) 3 1 []]) [1,2,0] Ed rfl),(.slice none 0 0),[],a1,a2,a3,rfl,rfl,a5,a4,b9,ca⟩)
theorem qu3 {e:Nat} {o:Em} {f:Value} {i:Em} {ac:Em} {x1:GCluster} {l3:List ByteArray} {c:GAct} {r:GReply × GCluster × (List ByteArray)} (b:St w (qac [El e o 90,.stk f 9 1 i]) M [El e o 90,.stk f 9 1 i] w) (d:rep M o x1) (z:skr M f i l3) (aq:sl o 1993 1=[f]) (t:rep M ac c) (a:qho fu x1 l3 c=some r) :
    Calls Try.prog 52 #[Eh e,Eg ac] w (qa8 M w [El e o 90,.stk f 9 1 i] (fun M' u L'=>∃ vP xP k0 u1 x1,u=Eg ([Ef r.1.code,Ef r.1.n,vP]:Em)∧L'=[El e k0 90,.stk u1 9 1 x1,.stk vP 3 1 xP]∧skr M' vP xP r.1.values∧rep M' k0 r.2.1∧skr M' u1 x1 r.2.2∧sl k0 1993 1=[u1])):=by
 refine Zc Try.func52 117 fun T hT=>?_;have ar:T 0=Eh e:=hT 0;have cd:T 1=Eg ac:=hT 1;rw [qho] at a;refine Qv ?_;refine Qk<|Yx (v:= Eg ac) (cs:=ac) cd rfl b fun b6 w5 e6 b=>Qk (Zb U5 b ?_);intro b8 _ _ b;have aa:rep M (Zr.zc GReply) (Zr.zd:GReply):=Zr.zr;refine Qj<|Qv<|Qb (Qi Vh rfl)<|Qb (Qh (Ef c.n) Z5 rfl (b.bvB 1 rfl) (Y3 (rr t)))<|Qb (Qf (Ef c.n) rfl)<|Qj ?_;refine Qq (fun T' w'=>∃ ad ba bb ak bc al au bd,Mm.ext w.heap.size (qac [El e o 90,.stk f 9 1 i]) M ad∧St w (qac [El e o 90,.stk f 9 1 i]) ad [El b8 ba 40,El b6 ac 43,El e ak 90,.stk al 9 1 au] w'∧rep ad ba bb∧rep ad ak bc∧skr ad al au bd∧sl ak (0+1993) 1=[al]∧T' 4=Eh b8∧qdr bb bc bd=some r) ?_ ?_;refine Qs ?_;refine Qq (fun T' w'=>∃ g be,Mm.ext w.heap.size (qac [El e o 90,.stk f 9 1 i]) M g∧St w (qac [El e o 90,.stk f 9 1 i]) g [El b8 (Zr.zc GReply) 40,El b6 ac 43,El e o 90,.stk f 9 1 i] w'∧T' 0=Eh e∧T' 3=Eh b6∧T' 4=Eh b8∧T' 5=Ef c.n∧T' 49= .bool be∧qbz fu x1 l3 c be=some r) ?_ ?_;refine Q2<|Qb (Qd (Ef c.n) rfl)<|Qb (Zt rfl rfl)<|Qb (Qd (.bool (decide (c.n<0))) rfl) ?_;rcases ic a with ⟨bk,a⟩ | ⟨bk,a⟩<;>rw [bk];refine Qt 19 rfl<|Qj ?_;exact ⟨M,true,(Qc _ _ _),b,ar,rfl,rfl,rfl,rfl,a⟩;refine Qg rfl rfl (Qd (Ef c.n) rfl)<|Qg rfl rfl (Vb rfl rfl)<|Qt 2 rfl ?_;rcases ic a with ⟨bl,a⟩ | ⟨bl,a⟩<;>rw [bl];refine Qt 15 rfl<|Qj ?_;exact ⟨M,true,(Qc _ _ _),b,ar,rfl,rfl,rfl,rfl,a⟩;refine Qg rfl rfl (Qi Kr rfl)<|Qg rfl rfl (Qh (Ef c.kind) Z5 rfl (b.bvB 1 rfl) (V9 (rr t)))<|Qg rfl rfl (Z7 rfl rfl)<|Qg rfl rfl (Qd (.bool (c.kind==7)) rfl) ?_;rcases ic a with ⟨bm,a⟩ | ⟨bm,a⟩<;>rw [bm];refine Qg rfl rfl (Qi qp1 rfl)<|Qg rfl rfl (Qh (Ef c.m) Z5 rfl (b.bvB 1 rfl) (Uv (rr t)))<|Qg rfl rfl (Zt rfl rfl)<|Qg rfl rfl (Qd (.bool (decide (c.m<0))) rfl) ?_;rcases ic a with ⟨bn,a⟩ | ⟨bn,a⟩<;>rw [bn];refine Qt 3 rfl<|Qg rfl rfl (Zo (.bool true) rfl rfl)<|Qg rfl rfl (Zo (.bool true) rfl rfl)<|Qt 2 rfl<|Qj ?_;exact ⟨M,true,(Qc _ _ _),b,ar,rfl,rfl,rfl,rfl,a⟩;refine Qg rfl rfl (Qi qp1 rfl)<|Qg rfl rfl (Qh (Ef c.m) Z5 rfl (b.bvB 1 rfl) (Uv (rr t)))<|Qg rfl rfl (Vj rfl rfl)<|Qg rfl rfl (Q3 (.bool (decide (c.m>400))) rfl rfl)<|Qg rfl rfl (Zo (.bool (decide (c.m>400))) rfl rfl)<|Qt 2 rfl<|Qj ?_;exact ⟨M,(decide (c.m>400)),(Qc _ _ _),b,ar,rfl,rfl,rfl,rfl,a⟩;refine Qt 8 rfl<|Qg rfl rfl (Q3 (.bool false) rfl rfl)<|Qt 2 rfl<|Qj ?_;exact ⟨M,false,(Qc _ _ _),b,ar,rfl,rfl,rfl,rfl,a⟩;rintro _ _ ⟨g,be,ab,b,y,ax,ah,s,ce,a⟩;replace d:=Zd ab d;replace z:=Q7 ab.1 z;replace t:=Zd ab t;replace aa:=Zd ab aa;rw [qbz] at a;refine Q5 a ce (fun cf a=>?_) fun cf a=>?_;refine Qv ?_;obtain ⟨_,cg,a⟩:=Qa a;obtain rfl:=Xq cg;replace b:=b.nilStk 3 1;have bo:skr g (.slice none 0 0) [] ([]:List Int):=V6;have ch:qau (([(0,1),(1,1),(2,1)]:List (Nat × Nat))[·]?) (Zr.zc GReply) [(0,Ef 2)]=some ([Ef 2,Ef (Zr.zd:Int),(.slice none 0 0)]:Em):=rfl;refine Qb (Zl [(0,Ef 2)] K1 (Y4 rfl Vi) ch) ?_;obtain ⟨_,ci,a⟩:=Qa a;obtain rfl:=Xq ci;refine Qk<|Kh (ws:=[Ef 2,Ef (Zr.zd:Int),(.slice none 0 0)]) 1 b rfl ah rfl rfl (Xg aa) (Vp bo) fun fd b=>Qj ?_;cases a;exact Qz (Ky (j:=1) (cs:=[Ef 2,Ef (Zr.zd:Int),(.slice none 0 0)]) rfl ah Vo b rfl ⟨_,g,_,rfl,ab,(b.sel (H':=[El e o 90,.stk f 9 1 i,.stk (.slice none 0 0) 3 1 []]) [3,4,0] Ed rfl),(.slice none 0 0),[],o,f,i,rfl,rfl,bo,d,z,aq⟩);refine Qr<|K6 Z0 Ee b<|Zw (Qd _ y)<|Zw (Qd _ s)<|Zw (Q0 rfl)<|Zw (Qi Ue rfl) ?_;obtain ⟨cj,ck,a⟩:=Qm a;refine Zw (Za Un rfl rfl cj ck) ?_;obtain ⟨bp,cl,a⟩:=Qa a;refine Zw (Qh (.bool bp) J3 rfl (U3 (j:=2) rfl) (vp (k:=1) rfl rfl (Yu (rr d)) cl))<|Zw (Qi Kr ax)<|Zw (Qh (Ef c.kind) Z5 rfl (U3 (j:=1) rfl) (V9 (rr t)))<|Zw (Z7 rfl rfl)<|Zw (qyg rfl rfl Vd)<|Zw (Qf (.bool (!(bp==(c.kind==8)))) rfl)<|Jx ?_;intro _ b;refine Qe ?_;refine Q5 a rfl (fun cm a=>?_) fun cm a=>?_;refine Qv ?_;obtain ⟨_,cn,a⟩:=Qa a;obtain rfl:=Xq cn;replace b:=b.nilStk 3 1;have bq:skr g (.slice none 0 0) [] ([]:List Int):=V6;have co:qau (([(0,1),(1,1),(2,1)]:List (Nat × Nat))[·]?) (Zr.zc GReply) [(0,Ef 6)]=some ([Ef 6,Ef (Zr.zd:Int),(.slice none 0 0)]:Em):=rfl;refine Qb (Zl [(0,Ef 6)] K1 (Y4 rfl Vi) co) ?_;obtain ⟨_,cp,a⟩:=Qa a;obtain rfl:=Xq cp;refine Qk<|Kh (ws:=[Ef 6,Ef (Zr.zd:Int),(.slice none 0 0)]) 1 b rfl ah rfl rfl (Xg aa) (Vp bq) fun fh b=>Qj ?_;cases a;exact Qz (Ky (j:=1) (cs:=[Ef 6,Ef (Zr.zd:Int),(.slice none 0 0)]) rfl ah Vo b rfl ⟨_,g,_,rfl,ab,(b.sel (H':=[El e o 90,.stk f 9 1 i,.stk (.slice none 0 0) 3 1 []]) [3,4,0] Ed rfl),(.slice none 0 0),[],o,f,i,rfl,rfl,bq,d,z,aq⟩);refine Qv<|Qb (Qi Kr ax)<|Qb (Qh (Ef c.kind) Z5 rfl (b.bvB 1 rfl) (V9 (rr t)))<|Qb (Z7 rfl rfl)<|Qb (Qf (.bool (c.kind==7)) rfl)<|Qj ?_;refine Q5 a rfl (fun cq a=>?_) fun cq a=>?_;refine Yz [El b6 ac 43] [] Z0 b fun fi b cr ae=>Qu 0 rfl (Qd _ y) ae<|Qu 1 rfl (Qd _ s) ae<|Qu 2 rfl (Qi qp1 ax) ae<|Y8 3 rfl (Qh (Ef c.m) Z5 rfl (Yp 0 rfl) (Uv (rr t))) ae<|Qu 4 rfl (Z2 rfl rfl) ae<|Qu 5 rfl (Q0 rfl) ae<|Qu 6 rfl (Qi U7 rfl) ae ?_;obtain ⟨ct,cu,a⟩:=Qm a;refine Qu 7 rfl (Za q31 rfl rfl ct cu) ae ?_;obtain ⟨_,br,a⟩:=Qa a;obtain ⟨_,cv,a⟩:=Qa a;obtain ⟨cw,cx,a⟩:=Qa a;have fl:=(Zf br);refine w1 8 rfl (Z1 2 1 b d (ri (IntKind.wrap .i64 (c.m+1)):rep g _ _) (Jg (rr d) (vu (k:=1) rfl rfl (Y6 (rr d)) (Lf (vp (k:=1) rfl rfl (Y6 (rr d)) br) (ri (IntKind.wrap .i64 (c.m+1)):rep g _ _)) cv)) cx ?_);intro cy _ c1 c2 _ b;have c3:=(c2 Ec).trans aq;refine Yw b cr fun fo=>wd<|Q9<|Qe ?_;exact ⟨g,(Zr.zc GReply),(Zr.zd:GReply),cy,cw,f,i,l3,ab,b,aa,c1,z,c3,ah,a⟩;refine Qv<|Qb (Qi Kr ax)<|Qb (Qh (Ef c.kind) Z5 rfl (b.bvB 1 rfl) (V9 (rr t)))<|Qb (Z7 rfl rfl)<|Qb (Qf (.bool (c.kind==6)) rfl)<|Qj ?_;refine Q5 a rfl (fun c4 a=>?_) fun c4 a=>?_;refine Yz [] [] Z0 b fun fp b bg p=>Qu 0 rfl (Qd _ y) p<|Qu 1 rfl (Qd _ s) p<|Qu 2 rfl (Qd _ y) p<|Qu 3 rfl (Qd _ s) p<|Qu 4 rfl (Qd _ y) p<|Qu 5 rfl (Qd _ s) p ?_;obtain ⟨c5,c6,a⟩:=Qa a;obtain ⟨_,c7,bs⟩:∃ cs,qau (([(0,192),(192,1),(193,8)]:List (Nat × Nat))[·]?) (Zr.zc GNode) []=some cs∧rep g cs c5:=⟨_,Yb,Yc (x:=({ entries:=Zr.zd,order:=Zr.zd,values:=Zr.zd }:GNode)) (Zr.zr:rep g (Zr.zc GNode) (Zr.zd:GNode)) c6⟩;refine Qu 6 rfl (Zl [] q5e Vi c7) p<|Qu 7 rfl (Q0 rfl) p<|Qu 8 rfl (Qi Ut rfl) p ?_;obtain ⟨c8,c9,a⟩:=Qm a;refine Qu 9 rfl (Za q1r rfl rfl c8 c9) p<|Qu 11 rfl (Q0 rfl) p<|Qu 12 rfl (Qi Ue rfl) p<|Qu 15 rfl (Q0 rfl) p<|Qu 16 rfl (Qi U7 rfl) p ?_;obtain ⟨_,bu,a⟩:=Qa a;obtain ⟨_,da,a⟩:=Qa a;obtain ⟨_,db,a⟩:=Qa a;have fv:=(Zf bu);refine w1 10 rfl (Z1 2 201 b d bs (Kw (rr d) (vu (k:=201) rfl rfl (Yt (rr d)) (Lf (vp (k:=201) rfl rfl (Yt (rr d)) bu) bs) da)) db ?_);intro _ _ ay dc _ b;have dd:=(dc Ec).trans aq;refine Yw b bg fun de=>?_;obtain ⟨df,dg,a⟩:=Qm a;refine Qu 13 rfl (Za Un rfl rfl df dg) de ?_;obtain ⟨_,bv,a⟩:=Qa a;obtain ⟨_,dh,a⟩:=Qa a;obtain ⟨_,di,a⟩:=Qa a;have f2:=(Zf bv);refine w1 14 rfl (Z1 2 1 b ay (rb true:rep g _ _) (Jf (rr ay) (vu (k:=1) rfl rfl (Yu (rr ay)) (Lf (vp (k:=1) rfl rfl (Yu (rr ay)) bv) (rb true:rep g _ _)) dh)) di ?_);intro _ _ az dj _ b;have dk:=(dj Ec).trans dd;refine Yw b bg fun dl=>?_;obtain ⟨dm,dn,a⟩:=Qm a;refine Qu 17 rfl (Za q31 rfl rfl dm dn) dl ?_;obtain ⟨_,bw,a⟩:=Qa a;obtain ⟨_,dp,a⟩:=Qa a;obtain ⟨dq,dr,a⟩:=Qa a;have f8:=(Zf bw);refine w1 18 rfl (Z1 2 1 b az (ri 0:rep g _ _) (Jg (rr az) (vu (k:=1) rfl rfl (Y6 (rr az)) (Lf (vp (k:=1) rfl rfl (Y6 (rr az)) bw) (ri 0:rep g _ _)) dp)) dr ?_);intro ds _ dt du _ b;have dv:=(du Ec).trans dk;refine Yw b bg fun gc=>wd<|Q9<|Qe ?_;exact ⟨g,(Zr.zc GReply),(Zr.zd:GReply),ds,dq,f,i,l3,ab,b,aa,dt,z,dv,ah,a⟩;refine Qv<|Zj y<|Zj s<|Qb (Q0 rfl)<|Qb (Qi Jj rfl) ?_;obtain ⟨dw,dx,a⟩:=Qm a;refine Qb (Za qy7 rfl rfl dw dx) ?_;obtain ⟨bx,dy,a⟩:=Qa a;refine Qb (Qh (.string bx) ts9 rfl (b.bvB 2 rfl) (vp (k:=1) rfl rfl (Ym (rr d)) dy).1) ?_;obtain ⟨am,dz,a⟩:=Qa a;refine Qk (Y7 (vs:=[.string bx]) (rv:=(fun M' u=>∃ v0,u= .tuple #[v0,Ef am.2]∧repL M' v0 am.1)) cb73 (Zn rfl) b (qsx b.agree dz) ?_);intro _ b0 _ a0 d0 b;obtain ⟨a1,d1,d2⟩:=d0;subst d1;replace d:=Zd a0 d;refine Qb (Qd (.tuple #[a1,Ef am.2]) rfl)<|Qb (Q1 (v:=a1) rfl rfl)<|Qb (Q1 (v:= Ef am.2) rfl rfl)<|Qt 2 rfl<|Qj<|Qr<|Yz [El e o 90] [13] Z0 b fun gg b gh q=>Qu 0 rfl (Qd _ y) q<|Qu 1 rfl (Qd _ s) q<|Qu 2 rfl (Qd _ y) q<|Qu 3 rfl (Qd _ s) q<|Qu 4 rfl (Q0 rfl) q<|Qu 5 rfl (Qi Jj rfl) q ?_;obtain ⟨d3,d4,a⟩:=Qm a;refine Qu 6 rfl (Za qy7 rfl rfl d3 d4) q ?_;obtain ⟨d5,d6,a⟩:=Qa a;refine Y8 7 rfl (Qh (.string d5) ts9 rfl (Yp 0 rfl) (vp (k:=1) rfl rfl (Ym (rr d)) d6).1) q<|Qu 8 rfl (Qd (Ef am.2) rfl) q ?_;obtain ⟨a2,bh,a⟩:=Qa a;obtain ⟨⟨_,_⟩,d7,bh⟩:=Ab.1 bh;refine Qu 9 rfl ((bh ▸ qr1 (l:=none) (h:=(some am.2)) Zg rfl evn (evs rfl) d7)) q<|Qu 10 rfl (Q0 rfl) q<|Qu 11 rfl (Qi Jj rfl) q ?_;obtain ⟨d8,d9,a⟩:=Qm a;refine Qu 12 rfl (Za qy7 rfl rfl d8 d9) q ?_;obtain ⟨_,a3,a⟩:=Qa a;have a3:=Kn a3;obtain ⟨_,b1,a⟩:=Qa a;obtain ⟨_,ea,a⟩:=Qa a;obtain ⟨_,eb,a⟩:=Qa a;have gn:=(Zf b1);refine w1 13 rfl (Z1 2 1 b d (V8 a3:rep b0 [Value.string a2] a2) (Ug (rr d) (vu (k:=1) rfl rfl (Ym (rr d)) (Lf (vp (k:=1) rfl rfl (Ym (rr d)) b1) (V8 a3:rep b0 [Value.string a2] a2)) ea)) eb ?_);intro _ _ an ec _ b;have ed:=(ec Ec).trans aq;refine ⟨nB,?_⟩;refine wd<|Qe<|Qr<|Yz [] [] Z0 b fun gr b b2 ao=>Qu 0 rfl (Qd _ y) ao<|Qu 1 rfl (Qd _ s) ao<|Qu 2 rfl (Qd _ s) ao<|Qu 3 rfl (Qd (a1) rfl) ao<|Qu 8 rfl (Q0 rfl) ao<|Qu 9 rfl (Qi Ut rfl) ao ?_;obtain ⟨a4,ee,a⟩:=Qa a;refine w1 4 rfl (Y7 (vs:=[Ef c.n,a1]) (rv:=(fun M' u=>∃ c0,u= .tuple #[Eg c0,Ef a4.2]∧rep M' c0 a4.1)) cb74 (Zv rfl rfl) b (qk9 b.agree d2 ee) ?_);intro _ bi _ ap ef b;obtain ⟨b4,eg,b5⟩:=ef;subst eg;replace z:=Q7 (a0.1.trans ap.1) z;replace aa:=Zd (a0.trans ap) aa;replace an:=Zd ap an;refine Yw b (b2.trans ap) fun a5=>Qu 5 rfl (Qd (.tuple #[Eg b4,Ef a4.2]) rfl) a5<|Qu 6 rfl (Q1 (v:= Eg b4) rfl rfl) a5<|Qu 7 rfl (Q1 (v:= Ef a4.2) rfl rfl) a5 ?_;obtain ⟨eh,ei,a⟩:=Qm a;refine Qu 10 rfl (Za q1r rfl rfl eh ei) a5 ?_;obtain ⟨_,b7,a⟩:=Qa a;obtain ⟨_,ej,a⟩:=Qa a;obtain ⟨_,ek,a⟩:=Qa a;have gx:=(Zf b7);refine w1 11 rfl (Z1 2 201 b an b5 (Kw (rr an) (vu (k:=201) rfl rfl (Yt (rr an)) (Lf (vp (k:=201) rfl rfl (Yt (rr an)) b7) b5) ej)) ek ?_);intro _ _ a6 el _ b;have em:=(el Ec).trans ed;refine Yw b (b2.trans ap) fun g2=>wd<|Qe<|Q2<|Zj y<|Zj s<|Qb (Q0 rfl)<|Qb (Qi Ue rfl) ?_;obtain ⟨en,eo,a⟩:=Qm a;refine Qb (Za Un rfl rfl en eo) ?_;obtain ⟨_,b9,a⟩:=Qa a;obtain ⟨_,ep,a⟩:=Qa a;obtain ⟨er,es,a⟩:=Qa a;have g5:=(Zf b9);refine Qk (Z1 2 1 b a6 (rb false:rep bi _ _) (Jf (rr a6) (vu (k:=1) rfl rfl (Yu (rr a6)) (Lf (vp (k:=1) rfl rfl (Yu (rr a6)) b9) (rb false:rep bi _ _)) ep)) es ?_);intro et _ eu ev _ b;have ew:=(ev Ec).trans em;refine Vy<|Q9<|Qe ?_;exact ⟨bi,(Zr.zc GReply),(Zr.zd:GReply),et,er,f,i,l3,(ab.trans (a0.trans ap)),b,aa,eu,z,ew,ah,a⟩;rintro _ _ ⟨ad,ba,bb,ak,bc,al,au,bd,ex,b,ey,ez,e0,e1,ca,a⟩;rw [qdr] at a;refine Qv ?_;obtain ⟨_,e2,a⟩:=Qa a;obtain rfl:=Xq e2;replace b:=b.nilStk 3 1;have cb:skr ad (.slice none 0 0) [] ([]:List Int):=V6;have e3:qau (([(0,1),(1,1),(2,1)]:List (Nat × Nat))[·]?) (Zr.zc GReply) []=some ([Ef (Zr.zd:Int),Ef (Zr.zd:Int),(.slice none 0 0)]:Em):=rfl;refine Qb (Zl [] K1 Vi e3) ?_;obtain ⟨_,e4,a⟩:=Qa a;obtain rfl:=Xq e4;refine Qk<|Kh (ws:=[Ef (Zr.zd:Int),Ef (Zr.zd:Int),(.slice none 0 0)]) 1 b rfl ca rfl rfl (Xg ey) (Vp cb) fun hc b=>Qj ?_;cases a;exact Qz (Ky (j:=1) (cs:=[Ef (Zr.zd:Int),Ef (Zr.zd:Int),(.slice none 0 0)]) rfl ca Vo b rfl ⟨_,ad,_,rfl,ex,(b.sel (H':=[El e ak 90,.stk al 9 1 au,.stk (.slice none 0 0) 3 1 []]) [3,4,0] Ed rfl),(.slice none 0 0),[],ak,al,au,rfl,rfl,cb,ez,e0,e1⟩)
theorem qu4 {c:Nat} {g:Em} {f:Value} {h:Em} {p:Em} {x:GCluster} {l3:List ByteArray} {q:GAct} {r:GReply × GCluster × (List ByteArray)} (a:St w (qac [El c g 90,.stk f 9 1 h]) M [El c g 90,.stk f 9 1 h] w) (ak:rep M g x) (al:skr M f h l3) (bp:sl g 1993 1=[f]) (z:rep M p q) (b:qhn fu x l3 q=some r) :
    Calls Try.prog 48 #[Eh c,Eg p] w (qa8 M w [El c g 90,.stk f 9 1 h] (fun o u L'=>∃ vP xP k0 u1 x,u=Eg ([Ef r.1.code,Ef r.1.n,vP]:Em)∧L'=[El c k0 90,.stk u1 9 1 x,.stk vP 3 1 xP]∧skr o vP xP r.1.values∧rep o k0 r.2.1∧skr o u1 x r.2.2∧sl k0 1993 1=[u1])):=by
 refine Zc Try.func48 115 fun T hT=>?_;have cq:T 0=Eh c:=hT 0;have eg:T 1=Eg p:=hT 1;rw [qhn] at b;refine Qv ?_;refine Qk<|Yx (v:= Eg p) (cs:=p) eg rfl a fun y w5 gu a=>Qk (Zb U5 a ?_);intro t _ _ a;have b3:rep M (Zr.zc GReply) (Zr.zd:GReply):=Zr.zr;refine Qj ?_;refine Qq (fun e w'=>∃ a3 a4 bh,Mm.ext w.heap.size (qac [El c g 90,.stk f 9 1 h]) M a3∧St w (qac [El c g 90,.stk f 9 1 h]) a3 [El t a4 40,El y p 43,El c g 90,.stk f 9 1 h] w'∧rep a3 a4 bh∧e 0=Eh c∧e 3=Eh y∧e 4=Eh t∧qe7 fu x l3 q bh=some r) ?_ ?_;refine Qq (fun e w'=>∃ bi cr,Mm.ext w.heap.size (qac [El c g 90,.stk f 9 1 h]) M bi∧St w (qac [El c g 90,.stk f 9 1 h]) bi [El t (Zr.zc GReply) 40,El y p 43,El c g 90,.stk f 9 1 h] w'∧e 0=Eh c∧e 3=Eh y∧e 4=Eh t∧e 24= .bool cr∧qei fu x l3 q cr=some r) ?_ ?_;refine Yz [El y p 43,El c g 90] [] Z0 a fun gx a gy l=>Qu 0 rfl (Qi Vh rfl) l<|Y8 1 rfl (Qh (Ef q.n) Z5 rfl (Yp 0 rfl) (Y3 (rr z))) l<|Qu 2 rfl (Zt rfl rfl) l<|Qu 3 rfl (Qd (.bool (decide (q.n<0))) rfl) l ?_;rcases ic b with ⟨dl,b⟩ | ⟨dl,b⟩<;>rw [dl];refine Vg 4 (j:=3) rfl rfl rfl rfl (fun _=>l)<|Vg 5 (j:=3) rfl rfl rfl rfl (fun _=>l)<|Vg 6 (j:=3) rfl rfl rfl rfl (fun _=>l)<|Vg 7 (j:=3) rfl rfl rfl rfl (fun _=>l)<|Vg 8 (j:=3) rfl rfl rfl rfl (fun _=>l)<|Vg 9 (j:=3) rfl rfl rfl rfl (fun _=>l)<|Vg 10 (j:=3) rfl rfl rfl rfl (fun _=>l)<|Vg 11 (j:=3) rfl rfl rfl rfl (fun _=>l)<|Qu 12 rfl (Zo (.bool true) rfl rfl) l<|wd<|Qe ?_;exact ⟨M,true,(Qc _ _ _),a,cq,rfl,rfl,rfl,b⟩;refine Kg 4 rfl rfl rfl (Qi Vh rfl) (fun _=>l)<|Jh 5 rfl rfl rfl (Qh (Ef q.n) Z5 rfl (Yp 0 rfl) (Y3 (rr z))) l<|Kg 6 rfl rfl rfl (Qd _ cq) (fun _=>l)<|Kg 7 rfl rfl rfl (Q0 rfl) (fun _=>l)<|Kg 8 rfl rfl rfl (Qi K0 rfl) (fun _=>l)<|Jh 9 rfl rfl rfl (Qh f q1b rfl (Yp 1 rfl) bp) l ?_;obtain ⟨_,_,eh,_⟩:=Vw al;refine Kg 10 rfl rfl rfl (Zh Yr (V3 eh rfl)) (fun _=>l)<|Kg 11 rfl rfl rfl (Vb rfl rfl) (fun _=>l)<|Qu 12 rfl (Q3 (.bool (decide (q.n≥(l3.length:Int)))) rfl rfl) l<|wd<|Qe ?_;exact ⟨M,(decide (q.n≥(l3.length:Int))),(Qc _ _ _),a,cq,rfl,rfl,rfl,b⟩;rintro _ _ ⟨bi,cr,bq,a,ei,ej,ct,ek,b⟩;replace ak:=Zd bq ak;replace al:=Q7 bq.1 al;replace b3:=Zd bq b3;rw [qei] at b;refine Q5 b ek (fun el b=>?_) fun el b=>?_;refine Qv ?_;obtain ⟨_,em,b⟩:=Qa b;obtain rfl:=Xq em;replace a:=a.nilStk 3 1;have dm:skr bi (.slice none 0 0) [] ([]:List Int):=V6;have en:qau (([(0,1),(1,1),(2,1)]:List (Nat × Nat))[·]?) (Zr.zc GReply) [(0,Ef 4)]=some ([Ef 4,Ef (Zr.zd:Int),(.slice none 0 0)]:Em):=rfl;refine Qb (Zl [(0,Ef 4)] K1 (Y4 rfl Vi) en) ?_;obtain ⟨_,eo,b⟩:=Qa b;obtain rfl:=Xq eo;refine Qk<|Kh (ws:=[Ef 4,Ef (Zr.zd:Int),(.slice none 0 0)]) 1 a rfl ct rfl rfl (Xg b3) (Vp dm) fun g6 a=>Qj ?_;cases b;exact Qz (Ky (j:=1) (cs:=[Ef 4,Ef (Zr.zd:Int),(.slice none 0 0)]) rfl ct Vo a rfl ⟨_,bi,_,rfl,bq,(a.sel (H':=[El c g 90,.stk f 9 1 h,.stk (.slice none 0 0) 3 1 []]) [3,4,0] Ed rfl),(.slice none 0 0),[],g,f,h,rfl,rfl,dm,ak,al,bp⟩);refine Ql<|Qe ?_;exact ⟨bi,(Zr.zc GReply),(Zr.zd:GReply),bq,a,b3,ei,ej,ct,b⟩;rintro _ _ ⟨a3,a4,bh,au,a,ag,br,bj,dn,b⟩;replace ak:=Zd au ak;replace al:=Q7 au.1 al;replace z:=Zd au z;rw [qe7] at b;refine Qr<|K6 Z0 Ee a<|Zw (Qd _ br)<|Zw (Q0 rfl)<|Zw (Qi K0 rfl)<|Zw (Qh f q1b rfl (U3 (j:=2) rfl) bp)<|Zw (Qi Vh bj)<|Zw (Qh (Ef q.n) Z5 rfl (U3 (j:=1) rfl) (Y3 (rr z))) ?_;obtain ⟨am,ep,b⟩:=Qa b;obtain ⟨_,er,_,es,et,eu,ev,cu⟩:=qp6 (a.skv (j:=3) rfl al) ep;replace cu:rep _ (sl h (er+Int.toNat q.n*1) 1) am:=cu;refine Zw (Y0 q5h rfl es rfl et eu)<|Zw (Qh (.string am) ts9 rfl (bvKS (j:=3) rfl ev) cu.1)<|Zw (Qf (.string am) rfl)<|Jx ?_;intro _ a;refine Qe ?_;refine Qq (fun e w'=>∃ bs an bu ao av bv,Mm.ext w.heap.size (qac [El c g 90,.stk f 9 1 h]) a3 bs∧St w (qac [El c g 90,.stk f 9 1 h]) bs [El t a4 40,El y p 43,El c an 90,.stk ao 9 1 av] w'∧rep bs an bu∧skr bs ao av bv∧sl an (0+1993) 1=[ao]∧e 0=Eh c∧e 3=Eh y∧e 4=Eh t∧e 5= .string am∧qdq fu q bh am bu bv=some r) ?_ ?_;refine Qv<|Qb (Qi Kr bj)<|Qb (Qh (Ef q.kind) Z5 rfl (a.bvB 1 rfl) (V9 (rr z)))<|Qb (Yo rfl rfl)<|Qj ?_;refine Q5 b rfl (fun ew b=>?_) fun ew b=>?_;refine Yz [El y p 43,El c g 90] [13] Z0 a fun hc a ex ah=>Qu 0 rfl (Qd _ br) ah<|Qu 1 rfl (Qd _ br) ah<|Qu 2 rfl (Q0 rfl) ah<|Qu 3 rfl (Qi K0 rfl) ah<|Y8 4 rfl (Qh f q1b rfl (Yp 1 rfl) bp) ah<|Qu 5 rfl (Qi Vh bj) ah<|Y8 6 rfl (Qh (Ef q.n) Z5 rfl (Yp 0 rfl) (Y3 (rr z))) ah<|Qu 7 rfl (Qi Vh bj) ah<|Y8 8 rfl (Qh (Ef q.n) Z5 rfl (Yp 0 rfl) (Y3 (rr z))) ah<|Qu 9 rfl (Z2 rfl rfl) ah ?_;obtain ⟨ey,ez,b⟩:=Qa b;refine w1 10 rfl<|q3c (j:=3) cb66 (J0 rfl rfl rfl) a rfl al ez fun e0 e1 hd b4 a=>Yw a ex fun dp=>Qu 11 rfl (Q0 rfl) dp<|Qu 12 rfl (Qi K0 rfl) dp ?_;obtain ⟨e2,e3,b⟩:=Qa b;refine w1 13 rfl (Z9 2 1 a rfl ak rfl rfl (Kj b4) (Jr b4) rfl (GCluster.u6 (rr ak) (Lf (GCluster.p6 (rr ak)) (Kj b4))) e3 ?_);intro e4 _ e5 _ e6 a;have e7:=e6;refine ⟨nB,?_⟩;refine wd<|Qe ?_;exact ⟨a3,e4,e2,e0,e1,ey,(Qc _ _ _),a,e5,b4,e7,br,bj,dn,rfl,b⟩;refine Ql<|Qe ?_;exact ⟨a3,g,x,f,h,l3,(Qc _ _ _),a,ak,al,bp,br,bj,dn,rfl,b⟩;rintro _ _ ⟨bs,an,bu,ao,av,bv,a5,a,a6,a7,cv,dq,e8,b5,cw,b⟩;rw [qdq] at b;refine Qv<|Zj cw ?_;obtain ⟨bw,e9,b⟩:=Qa b;refine Qk (Y7 (vs:=[.string am]) (rv:=(fun o u=>∃ c0,u= .tuple #[Eg c0,Ef bw.2]∧rep o c0 bw.1)) q87 (Zn rfl) a (qn2 a.agree e9) ?_);intro _ a8 _ ap fa a;obtain ⟨dr,fb,ds⟩:=fa;subst fb;replace z:=Zd (a5.trans ap) z;replace ag:=Zd (a5.trans ap) ag;replace a6:=Zd ap a6;replace a7:=Q7 ap.1 a7;refine Qb (Qd (.tuple #[Eg dr,Ef bw.2]) rfl)<|Qb (Q1 (v:= Eg dr) rfl rfl)<|Qb (Q1 (v:= Ef bw.2) rfl rfl) ?_;refine Qk (Zb quj a ?_);intro ad _ _ a;have dt:rep a8 (Zr.zc GFrame) (Zr.zd:GFrame):=Zr.zr;obtain ⟨d,fc,b⟩:=Qa b;refine Qk (Z1 0 7 a dt ds (Lf (rr dt) ds) fc ?_);intro ae _ m _ _ a;refine Qb (Qf (Ef bw.2) rfl)<|Qj<|Qr<|Qv<|Qb (Qi Kr e8)<|Qb (Qh (Ef q.kind) Z5 rfl (a.bvB 2 rfl) (V9 (rr z)))<|Qb (Z7 rfl rfl)<|Qj ?_;refine Q5 b rfl (fun fd b=>?_) fun fd b=>?_;refine Qv<|Qb (Qi Yl rfl)<|Qb (Qh (Ef d.id) Z5 rfl (a.bvB 0 rfl) (Z4 (rr m))) ?_;obtain ⟨_,fe,b⟩:=Qa b;obtain rfl:=Xq fe;replace a:=a.nilStk 3 1;have du:skr a8 (.slice none 0 0) [] ([]:List Int):=V6;have ff:qau (([(0,1),(1,1),(2,1)]:List (Nat × Nat))[·]?) (Zr.zc GReply) [(1,Ef d.id)]=some ([Ef (Zr.zd:Int),Ef d.id,(.slice none 0 0)]:Em):=rfl;refine Qb (Zl [(1,Ef d.id)] K1 (Y4 rfl Vi) ff) ?_;obtain ⟨_,fg,b⟩:=Qa b;obtain rfl:=Xq fg;refine Qk<|Kh (ws:=[Ef (Zr.zd:Int),Ef d.id,(.slice none 0 0)]) 2 a rfl b5 rfl rfl (Xg ag) (Vp du) fun hr a=>Qj ?_;cases b;exact Qz (Ky (j:=2) (cs:=[Ef (Zr.zd:Int),Ef d.id,(.slice none 0 0)]) rfl b5 Vo a rfl ⟨_,a8,_,rfl,(au.trans (a5.trans ap)),(a.sel (H':=[El c an 90,.stk ao 9 1 av,.stk (.slice none 0 0) 3 1 []]) [4,5,0] Ed rfl),(.slice none 0 0),[],an,ao,av,rfl,rfl,du,a6,a7,cv⟩);refine Ql<|Qe ?_;refine Qq (fun e w'=>∃ ax bk cx ai b7 ay a9 b9,Mm.ext w.heap.size (qac [El c g 90,.stk f 9 1 h]) a8 ax∧St w (qac [El c g 90,.stk f 9 1 h]) ax [El ad ae 118,El t bk 40,El y p 43,El c ai 90,.stk ay 9 1 a9] w'∧rep ax bk cx∧rep ax ai b7∧skr ax ay a9 b9∧sl ai (0+1993) 1=[ay]∧e 0=Eh c∧e 4=Eh t∧e 6=Eh ad∧qe6 fu d cx b7 b9=some r) ?_ ?_;refine Qq (fun e w'=>∃ ca cy,Mm.ext w.heap.size (qac [El c g 90,.stk f 9 1 h]) a8 ca∧St w (qac [El c g 90,.stk f 9 1 h]) ca [El ad ae 118,El t a4 40,El y p 43,El c an 90,.stk ao 9 1 av] w'∧e 0=Eh c∧e 4=Eh t∧e 5= .string am∧e 6=Eh ad∧e 68= .bool cy∧qcp fu bh am bu bv d cy=some r) ?_ ?_;refine Q2<|Qb (Qi V2 rfl)<|Qb (Qh (Ef d.kind) Z5 rfl (a.bvB 0 rfl) (Y9 (rr m)))<|Qb (Z7 rfl rfl)<|Qb (Qd (.bool (d.kind==1)) rfl) ?_;rcases ic b with ⟨dv,b⟩ | ⟨dv,b⟩<;>rw [dv];refine Qt 4 rfl<|Qj ?_;exact ⟨a8,true,(Qc _ _ _),a,dq,b5,cw,rfl,rfl,b⟩;refine Qg rfl rfl (Qi V2 rfl)<|Qg rfl rfl (Qh (Ef d.kind) Z5 rfl (a.bvB 0 rfl) (Y9 (rr m)))<|Qg rfl rfl (Z7 rfl rfl)<|Qb (Q3 (.bool (d.kind==3)) rfl rfl)<|Qj ?_;exact ⟨a8,(d.kind==3),(Qc _ _ _),a,dq,b5,cw,rfl,rfl,b⟩;rintro _ _ ⟨ca,cy,ba,a,dw,bx,fh,cb,fi,b⟩;replace ag:=Zd ba ag;replace a6:=Zd ba a6;replace a7:=Q7 ba.1 a7;replace m:=Zd ba m;rw [qcp] at b;refine Q5 b fi (fun fj b=>?_) fun fj b=>?_;refine Qr<|Qv<|Zj dw<|Qb (Qi Ks cb)<|Qb (Qh (Ef d.node) Z5 rfl (a.bvB 0 rfl) (Vu (rr m))) ?_;have dx:=(rr m);refine Qb (Q8 Jd cb (a.bvB 0 rfl) (Xg dx))<|Zj fh ?_;obtain ⟨af,fk,b⟩:=Qa b;refine Qk (Zi (vs:=[Eh c,Ef d.node,Eg (sl ae (0) 7),.string am]) (L:=[El c an 90,.stk ao 9 1 av]) (R:=[El ad ae 118,El t a4 40,El y p 43]) (rv:=(fun o u L'=>∃ k0 u1 x,u=Ef af.1∧L'=[El c k0 90,.stk u1 9 1 x]∧rep o k0 af.2.1∧skr o u1 x af.2.2∧sl k0 1993 1=[u1])) cb68 (q1j rfl rfl rfl rfl) a (a.sel [3,4,0,1,2] Ed rfl) (fun a=>qs1 a a6 a7 cv dx fk) ?_);rintro _ cc _ _ cd ⟨ce,cf,cg,rfl,fl,dy,dz,d0⟩ a;replace a:=a _ fl;replace ag:=Zd cd ag;replace m:=Zd cd m;refine Qb (Qf (Ef af.1) rfl)<|Qj<|Qv<|Qb (Qd (Ef af.1) rfl)<|Qb (Yo rfl rfl)<|Qj ?_;refine Q5 b rfl (fun fm b=>?_) fun fm b=>?_;refine Qv<|Qb (Qd (Ef af.1) rfl) ?_;obtain ⟨_,fn,b⟩:=Qa b;obtain rfl:=Xq fn;replace a:=a.nilStk 3 1;have d1:skr cc (.slice none 0 0) [] ([]:List Int):=V6;have fo:qau (([(0,1),(1,1),(2,1)]:List (Nat × Nat))[·]?) (Zr.zc GReply) [(0,Ef af.1)]=some ([Ef af.1,Ef (Zr.zd:Int),(.slice none 0 0)]:Em):=rfl;refine Qb (Zl [(0,Ef af.1)] K1 (Y4 rfl Vi) fo) ?_;obtain ⟨_,fp,b⟩:=Qa b;obtain rfl:=Xq fp;refine Qk<|Kh (ws:=[Ef af.1,Ef (Zr.zd:Int),(.slice none 0 0)]) 4 a rfl bx rfl rfl (Xg ag) (Vp d1) fun h0 a=>Qj ?_;cases b;exact Qz (Ky (j:=4) (cs:=[Ef af.1,Ef (Zr.zd:Int),(.slice none 0 0)]) rfl bx Vo a rfl ⟨_,cc,_,rfl,(au.trans (a5.trans (ap.trans (ba.trans cd)))),(a.sel (H':=[El c ce 90,.stk cf 9 1 cg,.stk (.slice none 0 0) 3 1 []]) [1,2,0] Ed rfl),(.slice none 0 0),[],ce,cf,cg,rfl,rfl,d1,dy,dz,d0⟩);refine Ql<|Qe<|Qv<|Qb (Qi Yl cb)<|Qb (Qh (Ef d.id) Z5 rfl (a.bvB 2 rfl) (Z4 (rr m))) ?_;obtain ⟨_,fq,b⟩:=Qa b;obtain rfl:=Xq fq;replace a:=a.nilStk 3 1;have d2:skr cc (.slice none 0 0) [] ([]:List Int):=V6;have fr:qau (([(0,1),(1,1),(2,1)]:List (Nat × Nat))[·]?) (Zr.zc GReply) [(1,Ef d.id)]=some ([Ef (Zr.zd:Int),Ef d.id,(.slice none 0 0)]:Em):=rfl;refine Qb (Zl [(1,Ef d.id)] K1 (Y4 rfl Vi) fr) ?_;obtain ⟨_,fs,b⟩:=Qa b;obtain rfl:=Xq fs;refine Qk<|Kh (ws:=[Ef (Zr.zd:Int),Ef d.id,(.slice none 0 0)]) 4 a rfl bx rfl rfl (Xg ag) (Vp d2) fun h3 a=>Qj ?_;cases b;exact Qz (Ky (j:=4) (cs:=[Ef (Zr.zd:Int),Ef d.id,(.slice none 0 0)]) rfl bx Vo a rfl ⟨_,cc,_,rfl,(au.trans (a5.trans (ap.trans (ba.trans cd)))),(a.sel (H':=[El c ce 90,.stk cf 9 1 cg,.stk (.slice none 0 0) 3 1 []]) [1,2,0] Ed rfl),(.slice none 0 0),[],ce,cf,cg,rfl,rfl,d2,dy,dz,d0⟩);refine Ql<|Qe ?_;exact ⟨ca,a4,bh,an,bu,ao,av,bv,ba,a,ag,a6,a7,cv,dw,bx,cb,b⟩;rintro _ _ ⟨ax,bk,cx,ai,b7,ay,a9,b9,c1,a,bl,az,ch,d3,c2,d4,bz,b⟩;replace m:=Zd c1 m;rw [qe6] at b;refine Qq (fun e w'=>∃ bb bc bm c3 ci c4 a0,Mm.ext w.heap.size (qac [El c g 90,.stk f 9 1 h]) ax bb∧St w (qac [El c g 90,.stk f 9 1 h]) bb [El bc bm 49,El ad ae 118,El t bk 40,El y p 43,El c ai 90,.stk ay 9 1 a9] w'∧rep bb bm c3∧w.heap.size≤bc∧repL bb ci c4∧e 9=Eh bc∧e 0=Eh c∧e 4=Eh t∧e 6=Eh ad∧e 10=ci∧e 11=Ef a0∧qe5 fu d b7 b9 c3 c4 a0=some r) ?_ ?_;refine Yz [El ad ae 118,El c ai 90] [] Z0 a fun h6 a bn aj=>Qu 0 rfl (Qd _ c2) aj<|Qu 1 rfl (Qi Yl bz) aj<|Y8 2 rfl (Qh (Ef d.id) Z5 rfl (Yp 0 rfl) (Z4 (rr m))) aj<|Qu 3 rfl (Q0 rfl) aj<|Qu 4 rfl (Qi Jc rfl) aj ?_;obtain ⟨ft,fv,b⟩:=Qm b;refine Qu 5 rfl (Za Xf rfl rfl ft fv) aj ?_;obtain ⟨_,fw,b⟩:=Qa b;have c5:=(vp (k:=24) rfl rfl (Yj (rr az)) fw);refine Y8 6 rfl (Q8 Va rfl (Yp 1 rfl) (Xg c5)) aj<|Qu 7 rfl (Qi Yl bz) aj<|Y8 8 rfl (Qh (Ef d.id) Z5 rfl (Yp 0 rfl) (Z4 (rr m))) aj ?_;have c6:=(rr m);refine Y8 9 rfl (Q8 Jd bz (Yp 0 rfl) (Xg c6)) aj ?_;obtain ⟨s,d5,b⟩:=Qa b;obtain ⟨d6,d7,b⟩:=Qa b;refine U4 (i:=10) (j:=15) Ee rfl rfl (Y7 (vs:=[Eg (sl ai (0+1224+Int.toNat d.id*24) 24),Ef d.id,Eg (sl ae (0) 7)]) (rv:=(fun o u=>∃ c0 v1,u= .tuple #[Eg c0,v1,Ef s.2.2]∧rep o c0 s.1∧repL o v1 s.2.1)) q7y (J0 rfl rfl rfl) a (Uh a.agree c5 c6 d5) ?_) (Zb Xc a ?_);intro fx cj fy aq c7 a;obtain ⟨b1,ar,c8,b2,c9⟩:=c7;subst c8;refine Yw a (bn.trans aq) fun ck=>Qu 11 rfl (Qd (.tuple #[Eg b1,ar,Ef s.2.2]) rfl) ck<|Qu 12 rfl (Q1 (v:= Eg b1) rfl rfl) ck<|Qu 13 rfl (Q1 (v:=ar) rfl rfl) ck<|Qu 14 rfl (Q1 (v:= Ef s.2.2) rfl rfl) ck ?_;refine w1 15 rfl (Zb Xc a ?_);intro da fz db a;have bd:rep cj (Zr.zc GCase) (Zr.zd:GCase):=Zr.zr;refine Yw a (bn.trans aq) fun h8=>?_;refine w1 16 rfl (Z1 0 24 a bd b2 (Lf (rr bd) b2) d7 ?_);intro dc f0 dd f1 f2 a;refine Yw a (bn.trans aq) fun d8=>Qu 17 rfl (Qf (ar) rfl) d8<|Qu 18 rfl (Qf (Ef s.2.2) rfl) d8<|wd<|Qe ?_;exact ⟨cj,da,dc,d6,ar,s.2.1,s.2.2,aq,a,dd,db,c9,rfl,c2,d4,bz,rfl,rfl,b⟩;intro da fz db a;have bd:rep ax (Zr.zc GCase) (Zr.zd:GCase):=Zr.zr;refine Yw a bn fun h9=>?_;refine w1 10 rfl (Y7 (vs:=[Eg (sl ai (0+1224+Int.toNat d.id*24) 24),Ef d.id,Eg (sl ae (0) 7)]) (rv:=(fun o u=>∃ c0 v1,u= .tuple #[Eg c0,v1,Ef s.2.2]∧rep o c0 s.1∧repL o v1 s.2.1)) q7y (J0 rfl rfl rfl) a (Uh a.agree c5 c6 d5) ?_);intro fx cj fy aq c7 a;obtain ⟨b1,ar,c8,b2,c9⟩:=c7;subst c8;replace bd:=Zd aq bd;refine Yw a (bn.trans aq) fun cl=>Qu 11 rfl (Qd (.tuple #[Eg b1,ar,Ef s.2.2]) rfl) cl<|Qu 12 rfl (Q1 (v:= Eg b1) rfl rfl) cl<|Qu 13 rfl (Q1 (v:=ar) rfl rfl) cl<|Qu 14 rfl (Q1 (v:= Ef s.2.2) rfl rfl) cl ?_;refine w1 16 rfl (Z1 0 24 a bd b2 (Lf (rr bd) b2) d7 ?_);intro dc f0 dd f1 f2 a;refine Yw a (bn.trans aq) fun d9=>Qu 17 rfl (Qf (ar) rfl) d9<|Qu 18 rfl (Qf (Ef s.2.2) rfl) d9<|wd<|Qe ?_;exact ⟨cj,da,dc,d6,ar,s.2.1,s.2.2,aq,a,dd,db,c9,rfl,c2,d4,bz,rfl,rfl,b⟩;rintro _ _ ⟨bb,bc,bm,c3,ci,c4,a0,bo,a,f3,_,f4,f5,de,cm,ea,f6,eb,b⟩;replace m:=Zd bo m;replace bl:=Zd bo bl;replace az:=Zd bo az;replace ch:=Q7 bo.1 ch;rw [qe5] at b;refine Qr<|Qv<|Zj eb<|Qb (Yo rfl rfl)<|Qj ?_;refine Q5 b rfl (fun f7 b=>?_) fun f7 b=>?_;refine Qv<|Zj eb ?_;obtain ⟨_,f8,b⟩:=Qa b;obtain rfl:=Xq f8;replace a:=a.nilStk 3 1;have ec:skr bb (.slice none 0 0) [] ([]:List Int):=V6;have ga:qau (([(0,1),(1,1),(2,1)]:List (Nat × Nat))[·]?) (Zr.zc GReply) [(0,Ef a0)]=some ([Ef a0,Ef (Zr.zd:Int),(.slice none 0 0)]:Em):=rfl;refine Qb (Zl [(0,Ef a0)] K1 (Y4 rfl Vi) ga) ?_;obtain ⟨_,gb,b⟩:=Qa b;obtain rfl:=Xq gb;refine Qk<|Kh (ws:=[Ef a0,Ef (Zr.zd:Int),(.slice none 0 0)]) 3 a rfl cm rfl rfl (Xg bl) (Vp ec) fun ii a=>Qj ?_;cases b;exact Qz (Ky (j:=3) (cs:=[Ef a0,Ef (Zr.zd:Int),(.slice none 0 0)]) rfl cm Vo a rfl ⟨_,bb,_,rfl,(au.trans (a5.trans (ap.trans (c1.trans bo)))),(a.sel (H':=[El c ai 90,.stk ay 9 1 a9,.stk (.slice none 0 0) 3 1 []]) [5,6,0] Ed rfl),(.slice none 0 0),[],ai,ay,a9,rfl,rfl,ec,az,ch,d3⟩);refine Ql<|Qe<|Qr<|Yz [El bc bm 49,El ad ae 118] [] Z0 a fun ij a gc be=>Qu 0 rfl (Qd _ de) be<|Qu 1 rfl (Qi Yl ea) be<|Y8 2 rfl (Qh (Ef d.id) Z5 rfl (Yp 1 rfl) (Z4 (rr m))) be ?_;have df:=(rr f3);refine Y8 3 rfl (Q8 Va f5 (Yp 0 rfl) (Xg df)) be<|Qu 4 rfl (Q0 rfl) be<|Qu 5 rfl (Qi Jc rfl) be ?_;obtain ⟨ge,gf,b⟩:=Qm b;refine Qu 6 rfl (Za Xf rfl rfl ge gf) be ?_;obtain ⟨_,ed,b⟩:=Qa b;obtain ⟨_,gg,b⟩:=Qa b;obtain ⟨_,gh,b⟩:=Qa b;have io:=(Zf ed);refine w1 7 rfl (Z1 4 24 a az df (Uf (rr az) (vu (k:=24) rfl rfl (Yj (rr az)) (Lf (vp (k:=24) rfl rfl (Yj (rr az)) ed) df) gg)) gh ?_);intro gi _ gj gk _ a;have gl:=(gk Ec).trans d3;refine Yw a gc fun ir=>wd<|Qe<|Qv<|Zj de<|Zj f6 ?_;obtain ⟨ee,gm,b⟩:=Qa b;refine Qk (Zi (vs:=[Eh c,ci]) (L:=[El c gi 90,.stk ay 9 1 a9]) (R:=[El bc bm 49,El ad ae 118,El t bk 40,El y p 43]) (rv:=(fun o u L'=>∃ k0 u1 x,u= .tuple #[]∧L'=[El c k0 90,.stk u1 9 1 x]∧rep o k0 ee.1∧skr o u1 x ee.2∧sl k0 1993 1=[u1])) q4d (Zv rfl rfl) a (a.sel [4,5,0,1,2,3] Ed rfl) (fun a=>qfz a gj ch gl f4 gm) ?_);rintro _ _ _ _ dg ⟨cn,dh,di,rfl,gn,co,dj,go⟩ a;replace a:=a _ gn;replace m:=Zd dg m;refine Qj<|Qv<|Zj de<|Qb (Qi Yl ea)<|Qb (Qh (Ef d.id) Z5 rfl (a.bvB 3 rfl) (Z4 (rr m))) ?_;obtain ⟨bg,gp,b⟩:=Qa b;refine Qk (Zi (vs:=[Eh c,Ef d.id]) (L:=[El c cn 90]) (R:=[.stk dh 9 1 di,El bc bm 49,El ad ae 118,El t bk 40,El y p 43]) (rv:=(fun o u L'=>∃ vP xP,u=Eg ([Ef bg.code,Ef bg.n,vP]:Em)∧L'=[El c cn 90,.stk vP 3 1 xP]∧skr o vP xP bg.values)) q7w (Zv rfl rfl) a (a.sel [0,1,2,3,4,5] Ed rfl) (fun a=>qqb a co gp) ?_);rintro _ gq _ _ cp ⟨vP_95,xP_95,rfl,gr,ef⟩ a;replace a:=a _ gr;replace bl:=Zd (dg.trans cp) bl;replace co:=Zd cp co;replace dj:=Q7 cp.1 dj;obtain ⟨_,gs,b⟩:=Qa b;obtain rfl:=Xq gs;refine Qk<|Kh (ws:=[Ef bg.code,Ef bg.n,vP_95]) 5 a rfl cm rfl rfl (Xg bl) (Vp ef) fun i2 a=>Qj ?_;cases b;exact Qz (Ky (j:=5) (cs:=[Ef bg.code,Ef bg.n,vP_95]) rfl cm Vo a rfl ⟨_,gq,_,rfl,(au.trans (a5.trans (ap.trans (c1.trans (bo.trans (dg.trans cp)))))),(a.sel (H':=[El c cn 90,.stk dh 9 1 di,.stk vP_95 3 1 xP_95]) [0,2,1] Ed rfl),vP_95,xP_95,cn,dh,di,rfl,rfl,ef,co,dj,go⟩)
theorem q19 {c:Nat} {y:Em} {e:Value} {f:Em} {l:Em} {m:GCluster} {l3:List ByteArray} {d:GAct} {r:GReply × GCluster × (List ByteArray)} (a:St w (qac [El c y 90,.stk e 9 1 f]) M [El c y 90,.stk e 9 1 f] w) (ak:rep M y m) (q:skr M e f l3) (b5:sl y 1993 1=[e]) (aa:rep M l d) (b:qpj fu m l3 d=some r) :
    Calls Try.prog 19 #[Eh c,Eg l] w (qa8 M w [El c y 90,.stk e 9 1 f] (fun g u L'=>∃ vP xP s t m,u=Eg ([Ef r.1.code,Ef r.1.n,vP]:Em)∧L'=[El c s 90,.stk t 9 1 m,.stk vP 3 1 xP]∧skr g vP xP r.1.values∧rep g s r.2.1∧skr g t m r.2.2∧sl s 1993 1=[t])):=by
 refine Zc Try.func19 82 fun T hT=>?_;have ao:T 0=Eh c:=hT 0;have c4:T 1=Eg l:=hT 1;rw [qpj] at b;refine Qv ?_;refine Qk<|Yx (v:= Eg l) (cs:=l) c4 rfl a fun x w5 fa a=>Qk (Zb U5 a ?_);intro z _ _ a;have i:rep M (Zr.zc GReply) (Zr.zd:GReply):=Zr.zr;refine Qj<|Qv<|Qb (Qf (evT (fun _=>undef) (.func 46)) rfl)<|Qj<|Qr<|Qs<|Qv<|Zj ao<|Qb (Je rfl rfl Ys)<|Qb (Qf (.bool false) rfl)<|Qj<|Uu rfl<|Qv<|Zj ao<|Qb (Q0 rfl)<|Qb (Qi qp4 rfl)<|Qb (Qh (Ef m.acts) Z5 rfl (a.bvB 2 rfl) (Kx (rr ak)))<|Qb (Vb rfl rfl)<|Qb (Qf (.bool (decide (m.acts≥400))) rfl)<|Qj ?_;refine Q5 b rfl (fun c5 b=>?_) fun c5 b=>?_;refine Qv<|Qb (Qd (evT (fun _=>undef) (.func 46)) rfl) ?_;obtain ⟨ap,c6,b⟩:=Qa b;refine Qk (qw7 rfl (Zi (vs:=[Ef 5]) (L:=[]) (R:=[El z (Zr.zc GReply) 40,El x l 43,El c y 90,.stk e 9 1 f]) (rv:=(fun g u L'=>∃ vP xP,u=Eg ([Ef ap.code,Ef ap.n,vP]:Em)∧L'=[.stk vP 3 1 xP]∧skr g vP xP ap.values)) q5i (Zn rfl) a (a.sel [0,1,2,3] Ed rfl) (fun a=>qrj a.agree c6)) ?_);rintro _ c7 _ _ a7 ⟨vP_12,xP_12,rfl,c8,b9⟩ a;replace a:=a _ c8;replace ak:=Zd a7 ak;replace q:=Q7 a7.1 q;replace i:=Zd a7 i;obtain ⟨_,c9,b⟩:=Qa b;obtain rfl:=Xq c9;refine Qk<|Kh (ws:=[Ef ap.code,Ef ap.n,vP_12]) 1 a rfl rfl rfl rfl (Xg i) (Vp b9) fun fh a=>Qj ?_;cases b;exact Qz (Ky (j:=1) (cs:=[Ef ap.code,Ef ap.n,vP_12]) rfl rfl Vo a rfl ⟨_,c7,_,rfl,a7,(a.sel (H':=[El c y 90,.stk e 9 1 f,.stk vP_12 3 1 xP_12]) [3,4,0] Ed rfl),vP_12,xP_12,y,e,f,rfl,rfl,b9,ak,q,b5⟩);refine Ql<|Q9<|Qe<|Qv<|Zj ao<|Qb (Q0 rfl)<|Qb (Qi qp4 rfl)<|Qb (Qh (Ef m.acts) Z5 rfl (a.bvB 2 rfl) (Kx (rr ak)))<|Qb (Z2 rfl rfl)<|Qb (Q0 rfl)<|Qb (Qi qp4 rfl) ?_;obtain ⟨al,da,b⟩:=Qa b;refine Qk (Z1 2 1 a ak (ri (IntKind.wrap .i64 (m.acts+1)):rep M _ _) (GCluster.u7 (rr ak) (Lf (Kx (rr ak)) (ri (IntKind.wrap .i64 (m.acts+1)):rep M _ _))) da ?_);intro ac _ o db _ a;have az:=(db Ec).trans b5;refine Qj ?_;refine Qq (fun h w'=>∃ a0 a8 bk aq bl ar a1 bm,Mm.ext w.heap.size (qac [El c y 90,.stk e 9 1 f]) M a0∧St w (qac [El c y 90,.stk e 9 1 f]) a0 [El z a8 40,El x l 43,El c aq 90,.stk ar 9 1 a1] w'∧rep a0 a8 bk∧rep a0 aq bl∧skr a0 ar a1 bm∧sl aq (0+1993) 1=[ar]∧h 4=Eh z∧h 5=evT (fun _=>undef) (.func 46)∧qn9 fu bk bl bm=some r) ?_ ?_;refine Qv<|Qb (Qi Kr rfl)<|Qb (Qh (Ef d.kind) Z5 rfl (a.bvB 1 rfl) (V9 (rr aa)))<|Qj<|Qs<|Qv<|Qb (Z7 rfl rfl)<|Qb (Qf (.bool (d.kind==1)) rfl)<|Qj ?_;refine Q5 b rfl (fun dc b=>?_) fun dc b=>?_;refine Qv<|Zj ao<|Qb (Qi q23 rfl) ?_;obtain ⟨ca,dd,de⟩:=(GAct.p3 (rr aa));refine Qb (Qh ca Vc rfl (a.bvB 1 rfl) dd) ?_;obtain ⟨ag,df,b⟩:=Qa b;refine Qk (Zi (vs:=[Eh c,ca]) (L:=[El c ac 90,.stk e 9 1 f]) (R:=[El z (Zr.zc GReply) 40,El x l 43]) (rv:=(fun g u L'=>∃ vP xP s t m,u=Eg ([Ef ag.1.code,Ef ag.1.n,vP]:Em)∧L'=[El c s 90,.stk t 9 1 m,.stk vP 3 1 xP]∧skr g vP xP ag.1.values∧rep g s ag.2.1∧skr g t m ag.2.2∧sl s 1993 1=[t])) cb47 (Zv rfl rfl) a (a.sel [2,3,0,1] Ed rfl) (fun a=>qu2 a o q az de df) ?_);rintro _ dg _ _ cb ⟨vP_47,xP_47,cc,cd,ce,rfl,dh,cf,di,dj,dk⟩ a;replace a:=a _ dh;replace i:=Zd cb i;obtain ⟨_,dl,b⟩:=Qa b;obtain rfl:=Xq dl;refine Qk<|Kh (ws:=[Ef ag.1.code,Ef ag.1.n,vP_47]) 3 a rfl rfl rfl rfl (Xg i) (Vp cf) fun fo a=>Qj ?_;cases b;exact Qz (Ky (j:=3) (cs:=[Ef ag.1.code,Ef ag.1.n,vP_47]) rfl rfl Vo a rfl ⟨_,dg,_,rfl,cb,(a.sel (H':=[El c cc 90,.stk cd 9 1 ce,.stk vP_47 3 1 xP_47]) [0,1,2] Ed rfl),vP_47,xP_47,cc,cd,ce,rfl,rfl,cf,di,dj,dk⟩);refine Qq (fun h w'=>∃ ad bn,Mm.ext w.heap.size (qac [El c y 90,.stk e 9 1 f]) M ad∧St w (qac [El c y 90,.stk e 9 1 f]) ad [El z (Zr.zc GReply) 40,El x l 43,El c ac 90,.stk e 9 1 f] w'∧h 0=Eh c∧h 3=Eh x∧h 4=Eh z∧h 5=evT (fun _=>undef) (.func 46)∧h 27=Ef d.kind∧h 34= .bool bn∧qgd fu l3 d al bn=some r) ?_ ?_;refine Qv<|Qb (Z7 rfl rfl)<|Qb (Qf (.bool (d.kind==2)) rfl)<|Qj ?_;refine Q5 b rfl (fun dm b=>?_) fun dm b=>?_;refine Ql<|Qe ?_;exact ⟨M,(d.kind==2),(Qc _ _ _),a,ao,rfl,rfl,rfl,rfl,rfl,b⟩;refine Qv<|Qb (Z7 rfl rfl)<|Qb (Qf (.bool (d.kind==3)) rfl)<|Qj ?_;refine Q5 b rfl (fun dn b=>?_) fun dn b=>?_;refine Ql<|Qe ?_;exact ⟨M,(d.kind==3),(Qc _ _ _),a,ao,rfl,rfl,rfl,rfl,rfl,b⟩;refine Q2<|Qb (Z7 rfl rfl)<|Qb (Qf (.bool (d.kind==4)) rfl)<|Qj ?_;exact ⟨M,(d.kind==4),(Qc _ _ _),a,ao,rfl,rfl,rfl,rfl,rfl,b⟩;rintro _ _ ⟨ad,bn,ah,a,au,am,av,a4,a9,dp,b⟩;replace q:=Q7 ah.1 q;replace aa:=Zd ah aa;replace i:=Zd ah i;replace o:=Zd ah o;rw [qgd] at b;refine Q5 b dp (fun dq b=>?_) fun dq b=>?_;refine Qv<|Zj au ?_;have cg:=(rr aa);refine Qb (Q8 q30 am (a.bvB 1 rfl) (Xg cg)) ?_;obtain ⟨ai,dr,b⟩:=Qa b;refine Qk (Zi (vs:=[Eh c,Eg (sl l (0) 4)]) (L:=[El c ac 90,.stk e 9 1 f]) (R:=[El z (Zr.zc GReply) 40,El x l 43]) (rv:=(fun g u L'=>∃ vP xP s t m,u=Eg ([Ef ai.1.code,Ef ai.1.n,vP]:Em)∧L'=[El c s 90,.stk t 9 1 m,.stk vP 3 1 xP]∧skr g vP xP ai.1.values∧rep g s ai.2.1∧skr g t m ai.2.2∧sl s 1993 1=[t])) cb48 (Zv rfl rfl) a (a.sel [2,3,0,1] Ed rfl) (fun a=>qu4 a o q az cg dr) ?_);rintro _ ds _ _ ch ⟨vP_61,xP_61,ci,cj,ck,rfl,dt,cl,du,dv,dw⟩ a;replace a:=a _ dt;replace i:=Zd ch i;obtain ⟨_,dx,b⟩:=Qa b;obtain rfl:=Xq dx;refine Qk<|Kh (ws:=[Ef ai.1.code,Ef ai.1.n,vP_61]) 3 a rfl av rfl rfl (Xg i) (Vp cl) fun w64 a=>Qj ?_;cases b;exact Qz (Ky (j:=3) (cs:=[Ef ai.1.code,Ef ai.1.n,vP_61]) rfl av Vo a rfl ⟨_,ds,_,rfl,(ah.trans ch),(a.sel (H':=[El c ci 90,.stk cj 9 1 ck,.stk vP_61 3 1 xP_61]) [0,1,2] Ed rfl),vP_61,xP_61,ci,cj,ck,rfl,rfl,cl,du,dv,dw⟩);refine Qv<|Qb (Z7 a9 rfl)<|Qb (Qf (.bool (d.kind==5)) rfl)<|Qj ?_;refine Q5 b rfl (fun dy b=>?_) fun dy b=>?_;refine Qq (fun h w'=>∃ ba a5 bo,Mm.ext w.heap.size (qac [El c y 90,.stk e 9 1 f]) ad ba∧St w (qac [El c y 90,.stk e 9 1 f]) ba [El z a5 40,El x l 43,El c ac 90,.stk e 9 1 f] w'∧rep ba a5 bo∧h 0=Eh c∧h 3=Eh x∧h 4=Eh z∧qkl fu l3 d al bo=some r) ?_ ?_;refine Qq (fun h w'=>∃ bb bp,Mm.ext w.heap.size (qac [El c y 90,.stk e 9 1 f]) ad bb∧St w (qac [El c y 90,.stk e 9 1 f]) bb [El z (Zr.zc GReply) 40,El x l 43,El c ac 90,.stk e 9 1 f] w'∧h 0=Eh c∧h 3=Eh x∧h 4=Eh z∧h 5=evT (fun _=>undef) (.func 46)∧h 54= .bool bp∧qkm fu l3 d al bp=some r) ?_ ?_;refine Yz [El x l 43,El c ac 90] [] Z0 a fun fw a fx p=>Qu 0 rfl (Qi Vh am) p<|Y8 1 rfl (Qh (Ef d.n) Z5 rfl (Yp 0 rfl) (Y3 (rr aa))) p<|Qu 2 rfl (Zt rfl rfl) p<|Qu 3 rfl (Qd (.bool (decide (d.n<0))) rfl) p ?_;rcases ic b with ⟨cm,b⟩ | ⟨cm,b⟩<;>rw [cm];refine Vg 4 (j:=3) rfl rfl rfl rfl (fun _=>p)<|Vg 5 (j:=3) rfl rfl rfl rfl (fun _=>p)<|Vg 6 (j:=3) rfl rfl rfl rfl (fun _=>p)<|Vg 7 (j:=3) rfl rfl rfl rfl (fun _=>p)<|Vg 8 (j:=3) rfl rfl rfl rfl (fun _=>p)<|Vg 9 (j:=3) rfl rfl rfl rfl (fun _=>p)<|Vg 10 (j:=3) rfl rfl rfl rfl (fun _=>p)<|Qu 11 rfl (Zo (.bool true) rfl rfl) p<|wd<|Qe ?_;exact ⟨ad,true,(Qc _ _ _),a,au,am,av,a4,rfl,b⟩;refine Kg 4 rfl rfl rfl (Qi Vh am) (fun _=>p)<|Jh 5 rfl rfl rfl (Qh (Ef d.n) Z5 rfl (Yp 0 rfl) (Y3 (rr aa))) p<|Kg 6 rfl rfl rfl (Qd _ au) (fun _=>p)<|Kg 7 rfl rfl rfl (Q0 rfl) (fun _=>p)<|Kg 8 rfl rfl rfl (Qi Kq rfl) (fun _=>p)<|Jh 9 rfl rfl rfl (Qh (Ef al.begun) Z5 rfl (Yp 1 rfl) (Yv (rr o))) p<|Kg 10 rfl rfl rfl (Vb rfl rfl) (fun _=>p)<|Qu 11 rfl (Q3 (.bool (decide (d.n≥al.begun))) rfl rfl) p<|wd<|Qe ?_;exact ⟨ad,(decide (d.n≥al.begun)),(Qc _ _ _),a,au,am,av,a4,rfl,b⟩;rintro _ _ ⟨bb,bp,a6,a,dz,d0,bq,d1,d2,b⟩;replace q:=Q7 a6.1 q;replace i:=Zd a6 i;replace o:=Zd a6 o;rw [qkm] at b;refine Q5 b d2 (fun d3 b=>?_) fun d3 b=>?_;refine Qv<|Zj d1 ?_;obtain ⟨aw,d4,b⟩:=Qa b;refine Qk (qw7 rfl (Zi (vs:=[Ef 4]) (L:=[]) (R:=[El z (Zr.zc GReply) 40,El x l 43,El c ac 90,.stk e 9 1 f]) (rv:=(fun g u L'=>∃ vP xP,u=Eg ([Ef aw.code,Ef aw.n,vP]:Em)∧L'=[.stk vP 3 1 xP]∧skr g vP xP aw.values)) q5i (Zn rfl) a (a.sel [0,1,2,3] Ed rfl) (fun a=>qrj a.agree d4)) ?_);rintro _ d5 _ _ bc ⟨vP_105,xP_105,rfl,d6,cn⟩ a;replace a:=a _ d6;replace q:=Q7 bc.1 q;replace i:=Zd bc i;replace o:=Zd bc o;obtain ⟨_,d7,b⟩:=Qa b;obtain rfl:=Xq d7;refine Qk<|Kh (ws:=[Ef aw.code,Ef aw.n,vP_105]) 1 a rfl bq rfl rfl (Xg i) (Vp cn) fun f4 a=>Qj ?_;cases b;exact Qz (Ky (j:=1) (cs:=[Ef aw.code,Ef aw.n,vP_105]) rfl bq Vo a rfl ⟨_,d5,_,rfl,(ah.trans (a6.trans bc)),(a.sel (H':=[El c ac 90,.stk e 9 1 f,.stk vP_105 3 1 xP_105]) [3,4,0] Ed rfl),vP_105,xP_105,ac,e,f,rfl,rfl,cn,o,q,az⟩);refine Ql<|Qe ?_;exact ⟨bb,(Zr.zc GReply),(Zr.zd:GReply),a6,a,i,dz,d0,bq,b⟩;rintro _ _ ⟨ba,a5,bo,bd,a,br,bs,bu,co,b⟩;replace aa:=Zd bd aa;replace o:=Zd bd o;rw [qkl] at b;refine Qr<|Yz [El x l 43,El c ac 90] [11] Z0 a fun f7 a d8 ae=>Qu 0 rfl (Qd _ bs) ae<|Qu 1 rfl (Qd _ bs) ae<|Qu 2 rfl (Qi Vh bu) ae<|wlC (inL [6,7,10,11]) 3 rfl (Qh (Ef d.n) Z5 rfl (Yp 0 rfl) (Y3 (rr aa))) ae<|Qu 4 rfl (Q0 rfl) ae<|Qu 5 rfl (Qi Jc rfl) ae ?_;obtain ⟨d9,ea,b⟩:=Qm b;refine Qu 6 rfl (Za Xf rfl rfl d9 ea) ae ?_;obtain ⟨_,eb,b⟩:=Qa b;have cp:=(vp (k:=24) rfl rfl (Yj (rr o)) eb);refine wlC (inL [10,11]) 7 rfl (Q8 Va rfl (Yp 1 rfl) (Xg cp)) ae<|Qu 8 rfl (Qi Vh bu) ae<|wlC (inL [10,11]) 9 rfl (Qh (Ef d.n) Z5 rfl (Yp 0 rfl) (Y3 (rr aa))) ae ?_;obtain ⟨cq,ec,b⟩:=Qa b;refine w1 10 rfl (Y7 (vs:=[Eg (sl ac (0+1224+Int.toNat d.n*24) 24),Ef d.n]) (rv:=(fun g u=>repL g u cq)) q7v (Zv rfl rfl) a (qna a.agree cp ec) ?_);intro cr ed _ a2 ee a;have ef:repL ed cr cq:=ee;replace q:=Q7 (bd.1.trans a2.1) q;replace o:=Zd a2 o;refine Yw a (d8.trans a2) fun gb=>?_;obtain ⟨ct,eg,b⟩:=Qa b;refine w1 11 rfl (Zi (vs:=[Eh c,cr]) (L:=[El c ac 90,.stk e 9 1 f]) (R:=[El z a5 40,El x l 43]) (rv:=(fun g u L'=>∃ s t m,u= .tuple #[]∧L'=[El c s 90,.stk t 9 1 m]∧rep g s ct.1∧skr g t m ct.2∧sl s 1993 1=[t])) q4d (Zv rfl rfl) a (a.sel [2,3,0,1] Ed rfl) (fun a=>qfz a o q az ef eg) ?_);rintro _ _ _ _ bv ⟨be,bw,bx,rfl,eh,bg,bz,ei⟩ a;replace a:=a _ eh;replace aa:=Zd (a2.trans bv) aa;refine ⟨nB,?_⟩;refine wd<|Qe<|Qv<|Zj bs<|Qb (Qi Vh bu)<|Qb (Qh (Ef d.n) Z5 rfl (a.bvB 3 rfl) (Y3 (rr aa))) ?_;obtain ⟨ax,ej,b⟩:=Qa b;refine Qk (Zi (vs:=[Eh c,Ef d.n]) (L:=[El c be 90]) (R:=[.stk bw 9 1 bx,El z a5 40,El x l 43]) (rv:=(fun g u L'=>∃ vP xP,u=Eg ([Ef ax.code,Ef ax.n,vP]:Em)∧L'=[El c be 90,.stk vP 3 1 xP]∧skr g vP xP ax.values)) q7w (Zv rfl rfl) a (a.sel [0,1,2,3] Ed rfl) (fun a=>qqb a bg ej) ?_);rintro _ ek _ _ bh ⟨vP_90,xP_90,rfl,el,cu⟩ a;replace a:=a _ el;replace br:=Ag (a2.1.trans (bv.1.trans bh.1)) br;replace bg:=Zd bh bg;replace bz:=Q7 bh.1 bz;obtain ⟨_,em,b⟩:=Qa b;obtain rfl:=Xq em;refine Qk<|Kh (ws:=[Ef ax.code,Ef ax.n,vP_90]) 3 a rfl co rfl rfl (Xg br) (Vp cu) fun gl a=>Qj ?_;cases b;exact Qz (Ky (j:=3) (cs:=[Ef ax.code,Ef ax.n,vP_90]) rfl co Vo a rfl ⟨_,ek,_,rfl,(ah.trans (bd.trans (a2.trans (bv.trans bh)))),(a.sel (H':=[El c be 90,.stk bw 9 1 bx,.stk vP_90 3 1 xP_90]) [0,2,1] Ed rfl),vP_90,xP_90,be,bw,bx,rfl,rfl,cu,bg,bz,ei⟩);refine Qq (fun h w'=>∃ bi b0,Mm.ext w.heap.size (qac [El c y 90,.stk e 9 1 f]) ad bi∧St w (qac [El c y 90,.stk e 9 1 f]) bi [El z (Zr.zc GReply) 40,El x l 43,El c ac 90,.stk e 9 1 f] w'∧h 0=Eh c∧h 3=Eh x∧h 4=Eh z∧h 5=evT (fun _=>undef) (.func 46)∧h 73= .bool b0∧qhp fu l3 d al b0=some r) ?_ ?_;refine Qv<|Qb (Z7 a9 rfl)<|Qb (Qf (.bool (d.kind==6)) rfl)<|Qj ?_;refine Q5 b rfl (fun en b=>?_) fun en b=>?_;refine Ql<|Qe ?_;exact ⟨ad,(d.kind==6),(Qc _ _ _),a,au,am,av,a4,rfl,b⟩;refine Qv<|Qb (Z7 a9 rfl)<|Qb (Qf (.bool (d.kind==7)) rfl)<|Qj ?_;refine Q5 b rfl (fun eo b=>?_) fun eo b=>?_;refine Ql<|Qe ?_;exact ⟨ad,(d.kind==7),(Qc _ _ _),a,au,am,av,a4,rfl,b⟩;refine Q2<|Qb (Z7 a9 rfl)<|Qb (Qf (.bool (d.kind==8)) rfl)<|Qj ?_;exact ⟨ad,(d.kind==8),(Qc _ _ _),a,au,am,av,a4,rfl,b⟩;rintro _ _ ⟨bi,b0,a3,a,ep,er,b1,es,et,b⟩;replace q:=Q7 a3.1 q;replace aa:=Zd a3 aa;replace i:=Zd a3 i;replace o:=Zd a3 o;rw [qhp] at b;refine Q5 b et (fun eu b=>?_) fun eu b=>?_;refine Qv<|Zj ep ?_;have cv:=(rr aa);refine Qb (Q8 q30 er (a.bvB 1 rfl) (Xg cv)) ?_;obtain ⟨aj,ev,b⟩:=Qa b;refine Qk (Zi (vs:=[Eh c,Eg (sl l (0) 4)]) (L:=[El c ac 90,.stk e 9 1 f]) (R:=[El z (Zr.zc GReply) 40,El x l 43]) (rv:=(fun g u L'=>∃ vP xP s t m,u=Eg ([Ef aj.1.code,Ef aj.1.n,vP]:Em)∧L'=[El c s 90,.stk t 9 1 m,.stk vP 3 1 xP]∧skr g vP xP aj.1.values∧rep g s aj.2.1∧skr g t m aj.2.2∧sl s 1993 1=[t])) cb52 (Zv rfl rfl) a (a.sel [2,3,0,1] Ed rfl) (fun a=>qu3 a o q az cv ev) ?_);rintro _ ew _ _ cw ⟨vP_124,xP_124,cx,cy,c0,rfl,ex,c1,ey,ez,e0⟩ a;replace a:=a _ ex;replace i:=Zd cw i;obtain ⟨_,e1,b⟩:=Qa b;obtain rfl:=Xq e1;refine Qk<|Kh (ws:=[Ef aj.1.code,Ef aj.1.n,vP_124]) 3 a rfl b1 rfl rfl (Xg i) (Vp c1) fun gs a=>Qj ?_;cases b;exact Qz (Ky (j:=3) (cs:=[Ef aj.1.code,Ef aj.1.n,vP_124]) rfl b1 Vo a rfl ⟨_,ew,_,rfl,(ah.trans (a3.trans cw)),(a.sel (H':=[El c cx 90,.stk cy 9 1 c0,.stk vP_124 3 1 xP_124]) [0,1,2] Ed rfl),vP_124,xP_124,cx,cy,c0,rfl,rfl,c1,ey,ez,e0⟩);refine Ql<|Q9<|Qe ?_;exact ⟨bi,(Zr.zc GReply),(Zr.zd:GReply),ac,al,e,f,l3,(ah.trans a3),a,i,o,q,az,b1,es,b⟩;rintro _ _ ⟨a0,a8,bk,aq,bl,ar,a1,bm,e2,a,b2,b3,b4,e3,c2,e4,b⟩;rw [qn9] at b;refine Qv<|Zj e4 ?_;obtain ⟨ay,e5,b⟩:=Qa b;refine Qk (qw7 rfl (Zi (vs:=[Ef 3]) (L:=[]) (R:=[El z a8 40,El x l 43,El c aq 90,.stk ar 9 1 a1]) (rv:=(fun g u L'=>∃ vP xP,u=Eg ([Ef ay.code,Ef ay.n,vP]:Em)∧L'=[.stk vP 3 1 xP]∧skr g vP xP ay.values)) q5i (Zn rfl) a (a.sel [0,1,2,3] Ed rfl) (fun a=>qrj a.agree e5)) ?_);rintro _ e6 _ _ bj ⟨vP_37,xP_37,rfl,e7,c3⟩ a;replace a:=a _ e7;replace b2:=Zd bj b2;replace b3:=Zd bj b3;replace b4:=Q7 bj.1 b4;obtain ⟨_,e8,b⟩:=Qa b;obtain rfl:=Xq e8;refine Qk<|Kh (ws:=[Ef ay.code,Ef ay.n,vP_37]) 1 a rfl c2 rfl rfl (Xg b2) (Vp c3) fun gz a=>Qj ?_;cases b;exact Qz (Ky (j:=1) (cs:=[Ef ay.code,Ef ay.n,vP_37]) rfl c2 Vo a rfl ⟨_,e6,_,rfl,(e2.trans bj),(a.sel (H':=[El c aq 90,.stk ar 9 1 a1,.stk vP_37 3 1 xP_37]) [3,4,0] Ed rfl),vP_37,xP_37,aq,ar,a1,rfl,rfl,c3,b3,b4,e3⟩)
theorem qxj (a b:Nat) (ha:a<4611686018427387904) (hb:b<4611686018427387904) (h:a ||| b<9223372036854775808):bits .or .i64 (a:Int) (b:Int)=((a ||| b:Nat):Int):=by
 show IntKind.i64.wrap ((BitVec.ofInt 64 (a:Int) ||| BitVec.ofInt 64 (b:Int)).toNat:Int)=_;rw [BitVec.ofInt_natCast,BitVec.ofInt_natCast,BitVec.toNat_or,BitVec.toNat_ofNat,BitVec.toNat_ofNat,Nat.mod_eq_of_lt Ec,Nat.mod_eq_of_lt Ec];exact IntWalk.i64_in _ Ec
theorem q2a (a b:Nat) (ha:a<4611686018427387904 / 256) (hb:b<256):bits .or .i64 ((a:Int)*256) (b:Int)=(a:Int)*256+b:=by
 have h:=Nat.two_pow_add_eq_or_of_lt (i:=8) (b:=b) Ec a;have e:((a*256:Nat):Int)=(a:Int)*256:=by omega
 rw [← e,qxj _ _ Ec Ec (by rw [D1];rw [show (256:Nat)=2 ^ 8 from rfl,← h];omega)];rw [D1,show (256:Nat)=2 ^ 8 from rfl,← h];omega
abbrev X3 := @List.drop_eq_getElem_cons
abbrev Ba := @List.length_drop
def RTexts (S:Nat→Prop) (w:World) (v:Value) (l:List ByteArray):Prop:=RRow S w v 1 16 l.length (l.map Value.string)
def qhv (a b:UInt8):Nat:=a.toNat*256+b.toNat
def qcz (l:List UInt8):List ByteArray × Nat :=
 match l with
 | a::b::r =>
  if 1≤qhv a b∧qhv a b≤400∧qhv a b≤r.length then
   (⟨(r.take (qhv a b)).toArray⟩::(qcz (r.drop (qhv a b))).1,2+qhv a b+(qcz (r.drop (qhv a b))).2)
  else ([],0)
 | _=>([],0)
termination_by l.length
decreasing_by all_goals (simp only [List.length_cons,List.length_drop];omega)
theorem qqc {a b:UInt8} {r:List UInt8} (h:¬ (1≤qhv a b∧qhv a b≤400∧qhv a b≤r.length)):qcz (a::b::r)=([],0):=by
 rw [qcz,if_neg h]
theorem qv9 {a b:UInt8} {r:List UInt8} (h:1≤qhv a b∧qhv a b≤400∧qhv a b≤r.length) :
 qcz (a::b::r)=(⟨(r.take (qhv a b)).toArray⟩::(qcz (r.drop (qhv a b))).1,2+qhv a b+(qcz (r.drop (qhv a b))).2):=by
 rw [qcz,if_pos h]
theorem qkn {l:List UInt8} (h:l.length<2):qcz l=([],0):=by
 match l,h with
 | [],_=>rw [qcz];intro a b r h;cases h
 | [x],_=>rw [qcz];intro a b r h;cases h
def qqd (log:ByteArray) (acc:List ByteArray) (k:Nat):Prop :=
 (qcz log.data.toList).1=acc++(qcz (log.data.toList.drop k)).1∧(qcz log.data.toList).2=k+(qcz (log.data.toList.drop k)).2∧acc.length≤k
theorem qu5 (log:ByteArray):qqd log [] 0:=by simp [qqd]
theorem qwa {log:ByteArray} {k:Nat} (h:k+2≤log.size):log.data.toList.drop k=log[k]::log[k+1]::log.data.toList.drop (k+2):=by
 have hl:log.data.toList.length=log.size:=rfl;rw [X3 Ec,X3 Ec];rfl
theorem qu6 {log:ByteArray} {acc:List ByteArray} {k:Nat} (h:qqd log acc k) (hk:k+2≤log.size)
 (hn:1≤qhv log[k] log[k+1]∧qhv log[k] log[k+1]≤400∧qhv log[k] log[k+1]≤log.size-k-2) :
 qqd log (acc++[log.extract (k+2) (k+2+qhv log[k] log[k+1])]) (k+(2+qhv log[k] log[k+1])):=by
 obtain ⟨h1,h2,h3⟩:=h;have hl:log.data.toList.length=log.size:=rfl;rw [qwa hk,qv9 (by rw [Ba,hl];omega),B2] at h1 h2;have he:log.extract (k+2) (k+2+qhv log[k] log[k+1])=⟨(List.take (qhv log[k] log[k+1]) (List.drop (k+2) log.data.toList)).toArray⟩:=by
  apply q3q;rw [Go.Lib.extract_data];simp
 have e2:k+2+qhv log[k] log[k+1]=k+(2+qhv log[k] log[k+1]):=by omega
 rw [e2] at h1 h2;refine ⟨?_,by omega,by simp;omega⟩;rw [h1,← e2,he];simp
theorem qqe {log:ByteArray} {acc:List ByteArray} {k:Nat} (h:qqd log acc k) (he:qcz (log.data.toList.drop k)=([],0)):qcz log.data.toList=(acc,k):=by
 obtain ⟨h1,h2,_⟩:=h;rw [he] at h1 h2;simp at h1 h2;rw [← h1,← h2]
theorem RTexts.shape {S:Nat→Prop} {w:World} {v:Value} {l:List ByteArray} (h:RTexts S w v l):∃ a cap,v= .slice a l.length cap∧l.length≤17592186043904:=by
 obtain ⟨a,cap,he,h1,h2,h3,h4,h5⟩:=h;exact ⟨a,cap,he,by omega⟩
theorem RTexts.later {S:Nat→Prop} {w w':World} {v:Value} {l:List ByteArray} (h:RTexts S w v l) (hb:Below w.heap.size w w'):RTexts S w' v l:=RRow.later h hb
theorem RTexts.at {S:Nat→Prop} {w:World} {a:Option Addr} {n cap:Nat} {l:List ByteArray} (h:RTexts S w (.slice a n cap) l) {k:Nat} {x:ByteArray} (hx:l[k]? = some x) :
 ∃ b off,a=some ⟨b,off,none⟩∧S b∧b<w.heap.size∧w.cell? ⟨b,off+k,none⟩=some (.string x):=by
 obtain ⟨a',cap',he,h1,h2,h3,h4,h5⟩:=h;cases he;obtain ⟨b,off,ha,hb,hc⟩:=h5 k (.string x) (by simp [hx]);exact ⟨b,off,ha,hb,qq2 hc,hc⟩
abbrev Dm := @Int.fdiv_eq_ediv_of_nonneg
abbrev Dn := @List.tail_drop
abbrev Ay := @Int.emod_eq_of_lt
theorem qek (z:Int) (n:Nat) (l:List Byt) (j:Nat) (hj:j<6) (hl:l.length≤1000000) (h1 : -1099511627776≤z) (h2:z≤1099511627776) :
 qc7 z (n+1) l (j:Int)=qc7 z n (l++[⟨(z+140737488355328) / ((256 ^ j:Nat):Int)%256⟩]) ((j:Int)-1):=by
 rw [qc7];have hw:IntKind.wrap .i64 (z+140737488355328)=z+140737488355328:=qc6 Ec Ec;have h8:IntKind.wrap .u64 (8*IntKind.wrap .u64 (j:Int))=8*(j:Int):=by rw [q67 (x:=(j:Int)) Ec Ec,q67 Ec Ec]
 have hs:IntKind.wrap .i64 ((j:Int)-1)=(j:Int)-1:=qc6 Ec Ec;have hb:IntKind.bits .i64=64:=rfl;rw [qag (qaf Ec),hw,h8,hs,hb,qzn Ec,qaa,wr8,qbs (by simp [Rep.bytes];omega),qaa];have ht:Int.toNat (8*(j:Int))=8*j:=by omega
 have hm:min (8*j) 64=8*j:=by omega
 have hp:((2:Int) ^ (8*j))=((256 ^ j:Nat):Int):=by rw [Int.pow_mul];norm_cast
 rw [ht,hm,hp,Dm _ (Bj _)]
theorem qqf {fu:Nat} {z:Int} {l:List Byt} (hf:7≤fu) (hl:l.length≤100000) (h1 : -1099511627776≤z) (h2:z≤1099511627776):qlw fu l z=some (l++(qyd z).map Byt.mk):=by
 obtain ⟨n,rfl⟩:∃ n,fu=n+7:=⟨fu-7,by omega⟩;unfold qlw;have e5:=qek z (n+6) l 5 Ec Ec h1 h2;have e4:=fun m=>qek z (n+5) m 4 Ec;have e3:=fun m=>qek z (n+4) m 3 Ec;have e2:=fun m=>qek z (n+3) m 2 Ec;have e1:=fun m=>qek z (n+2) m 1 Ec;have e0:=fun m=>qek z (n+1) m 0 Ec;have q5:((5:Nat):Int)=5:=rfl;have q4:((4:Nat):Int)=4:=rfl;have q3:((3:Nat):Int)=3:=rfl;have q2:((2:Nat):Int)=2:=rfl;have q1:((1:Nat):Int)=1:=rfl;have q0:((0:Nat):Int)=0:=rfl;rw [q5] at e5;simp only [q4,q3,q2,q1,q0] at e4 e3 e2 e1 e0;rw [e5,show (5:Int)-1=4 from rfl,e4 _ (by simp;omega) h1 h2,show (4:Int)-1=3 from rfl,e3 _ (by simp;omega) h1 h2,show (3:Int)-1=2 from rfl,e2 _ (by simp;omega) h1 h2,show (2:Int)-1=1 from rfl,e1 _ (by simp;omega) h1 h2,show (1:Int)-1=0 from rfl,e0 _ (by simp;omega) h1 h2];rw [qc7,qad (qae Ec)];simp only [X8,Bo,A5,qyd,Ae,Bn];rw [show ((256 ^ 5:Nat):Int)=1099511627776 from rfl,show ((256 ^ 4:Nat):Int)=4294967296 from rfl,show ((256 ^ 3:Nat):Int)=16777216 from rfl,show ((256 ^ 2:Nat):Int)=65536 from rfl,show ((256 ^ 1:Nat):Int)=256 from rfl,Int.ediv_one]
structure FOk (f:GFrame):Prop where
 ops:f.ops.length≤4
 op:∀ o∈f.ops,0≤o.kind∧o.kind<256∧0≤o.key∧o.key<256 ∧ -1099511627776≤o.n∧o.n≤1099511627776
 deps:f.deps.length≤32
 dep:∀ n∈f.deps,0≤n∧n<32
 at_:f.at_.length≤4
 ats:∀ n∈f.at_,0≤n∧n<4
 vals:f.vals.length=f.at_.length
 val:∀ v∈f.vals,-1099511627776≤v∧v≤1099511627776
 head:0≤f.kind∧f.kind<256∧0≤f.node∧f.node<256∧0≤f.id∧f.id<256
def qgf (o:GOp):List Int:=o.kind::o.key::qyd o.n
def qc4 (p:Int × Int):List Int:=p.1::qyd p.2
def qxk (f:GFrame):List Int :=
 [f.kind,f.node,f.id,f.ops.length]++(f.ops.flatMap qgf++([(f.deps.length:Int)]++(f.deps++([(f.at_.length:Int)]++(f.at_.zip f.vals).flatMap qc4))))
theorem qwb (z:Int):(qyd z).length=6:=rfl
theorem byts (l:List Int):(l.map Byt.mk).map Byt.val=l:=by induction l with | nil=>rfl | cons x t ih=>rw [Ae,Ae,ih]
theorem q7b (f:GFrame) (hf:FOk f) (fu:Nat) (hfu:7≤fu):∀ (ra rv:List Int) (k n:Nat) (l:List Byt),f.at_.drop k=ra→f.vals.drop k=rv→ra.length<n→l.length+7*ra.length≤90000→k≤f.at_.length →
 qdt fu f n l (k:Int)=some (strOfNums (l.map Byt.val++(ra.zip rv).flatMap qc4),0):=by
 intro ra
 induction ra with
 | nil =>
  intro rv k n l ha hv hn hl hk;obtain ⟨n,rfl⟩:∃ m,n=m+1:=⟨n-1,by simp at hn;omega⟩;have:f.at_.length≤k:=by have:=congrArg List.length ha;simp at this;omega
  rw [qdt,qad (qae Ec)];simp
 | cons a t ih =>
  intro rv k n l ha hv hn hl hk;obtain ⟨n,rfl⟩:∃ m,n=m+1:=⟨n-1,by simp at hn;omega⟩;have hk2:k<f.at_.length:=by have:=congrArg List.length ha;simp at this;omega
  have hga:f.at_[k]? = some a:=by have:=congrArg (fun x:List Int=>x[0]?) ha;simpa using this
  cases rv with
  | nil=>have:=congrArg List.length hv;simp at this;have:=hf.vals;omega
  | cons v u =>
   have hgv:f.vals[k]? = some v:=by have:=congrArg (fun x:List Int=>x[0]?) hv;simpa using this
   have ha2:f.at_.drop (k+1)=t:=by rw [← Dn,ha];rfl
   have hv2:f.vals.drop (k+1)=u:=by rw [← Dn,hv];rfl
   have hv3:=hf.val v (Xt hgv);have ha3:=hf.ats a (Xt hga);have h4:=hf.at_;simp only [Xy] at hl hn;rw [qdt,qag (qaf Ec),qa5,hga,qaa,qa5,hgv,qaa,qbs (by simp [Rep.bytes];omega),qaa,qqf hfu (by simp;omega) hv3.1 hv3.2,qaa,
    qc6 Ec Ec,show (k:Int)+1=((k+1:Nat):Int) from rfl,ih u (k+1) n _ ha2 hv2 Ec (by simp [qwb];omega) Ec]
   congr 3;simp only [Aq,byts,wr8,List.zip_cons_cons,Aw,qc4,Ae,Bn,X8,Bo,A5];rw [Ay ha3.1 Ec]
theorem q7c (f:GFrame) (hf:FOk f) (fu:Nat) (hfu:40≤fu):∀ (ra:List Int) (k n:Nat) (l:List Byt),f.deps.drop k=ra→ra.length<n→l.length+ra.length≤80000→k≤f.deps.length →
 qdu fu f n l (k:Int)=some (strOfNums (l.map Byt.val++(ra++([(f.at_.length:Int)]++(f.at_.zip f.vals).flatMap qc4))),0):=by
 intro ra
 induction ra with
 | nil =>
  intro k n l ha hn hl hk;obtain ⟨n,rfl⟩:∃ m,n=m+1:=⟨n-1,by simp at hn;omega⟩;have:f.deps.length≤k:=by have:=congrArg List.length ha;simp at this;omega
  have h4:=hf.at_;simp only [Bk] at hl;rw [qdu,qad (qae Ec),qbs (by simp [Rep.bytes];omega),qaa,show (0:Int)=((0:Nat):Int) from rfl,q7b f hf fu Ec f.at_ f.vals 0 fu _ rfl rfl Ec (by simp;omega) Ec];congr 3;simp only [Aq,wr8,Ae,Bn,X8,A5];rw [Ay Ec Ec]
 | cons a t ih =>
  intro k n l ha hn hl hk;obtain ⟨n,rfl⟩:∃ m,n=m+1:=⟨n-1,by simp at hn;omega⟩;have hk2:k<f.deps.length:=by have:=congrArg List.length ha;simp at this;omega
  have hga:f.deps[k]? = some a:=by have:=congrArg (fun x:List Int=>x[0]?) ha;simpa using this
  have ha2:f.deps.drop (k+1)=t:=by rw [← Dn,ha];rfl
  have ha3:=hf.dep a (Xt hga);have h32:=hf.deps;simp only [Xy] at hl hn;rw [qdu,qag (qaf Ec),qa5,hga,qaa,qbs (by simp [Rep.bytes];omega),qaa,qc6 Ec Ec,show (k:Int)+1=((k+1:Nat):Int) from rfl,ih (k+1) n _ ha2 Ec (by simp;omega) Ec];congr 3;simp only [Aq,wr8,Ae,Bn,X8,Bo,A5];rw [Ay ha3.1 Ec]
theorem q7d (f:GFrame) (hf:FOk f) (fu:Nat) (hfu:40≤fu):∀ (ra:List GOp) (k n:Nat) (l:List Byt),f.ops.drop k=ra→ra.length<n→l.length+8*ra.length≤70000→k≤f.ops.length →
 qdv fu f n l (k:Int)=some (strOfNums (l.map Byt.val++(ra.flatMap qgf++([(f.deps.length:Int)]++(f.deps++([(f.at_.length:Int)]++(f.at_.zip f.vals).flatMap qc4))))),0):=by
 intro ra
 induction ra with
 | nil =>
  intro k n l ha hn hl hk;obtain ⟨n,rfl⟩:∃ m,n=m+1:=⟨n-1,by simp at hn;omega⟩;have:f.ops.length≤k:=by have:=congrArg List.length ha;simp at this;omega
  have h4:=hf.deps;simp only [Bk] at hl;rw [qdv,qad (qae Ec),qbs (by simp [Rep.bytes];omega),qaa,show (0:Int)=((0:Nat):Int) from rfl,q7c f hf fu hfu f.deps 0 fu _ rfl Ec (by simp;omega) Ec];congr 3;simp only [Aq,wr8,Ae,Bn,X8,A5,List.flatMap_nil];rw [Ay Ec Ec]
 | cons a t ih =>
  intro k n l ha hn hl hk;obtain ⟨n,rfl⟩:∃ m,n=m+1:=⟨n-1,by simp at hn;omega⟩;have hk2:k<f.ops.length:=by have:=congrArg List.length ha;simp at this;omega
  have hga:f.ops[k]? = some a:=by have:=congrArg (fun x:List GOp=>x[0]?) ha;simpa using this
  have ha2:f.ops.drop (k+1)=t:=by rw [← Dn,ha];rfl
  obtain ⟨b1,b2,b3,b4,b5,b6⟩:=hf.op a (Xt hga);have h4:=hf.ops;simp only [Xy] at hl hn;rw [qdv,qag (qaf Ec),qa5,hga,qaa,qaa,qbs (by simp [Rep.bytes];omega),qaa,qqf Ec (by simp;omega) b5 b6,qaa,
   qc6 Ec Ec,show (k:Int)+1=((k+1:Nat):Int) from rfl,ih (k+1) n _ ha2 Ec (by simp [qwb];omega) Ec]
  congr 3;simp only [Aq,byts,wr8,Aw,qgf,Ae,Bn,X8,Bo,A5];rw [Ay b1 b2,Ay b3 b4]
theorem qxl {f:GFrame} (hf:FOk f) (h0:qak f=0) {fu:Nat} (hfu:40≤fu):qie fu f=some (strOfNums (qxk f),0):=by
 unfold qie;have h4:=hf.ops;obtain ⟨b1,b2,b3,b4,b5,b6⟩:=hf.head;rw [qaa,h0,qad Ed,show (0:Int)=((0:Nat):Int) from rfl,q7d f hf fu hfu f.ops 0 fu _ rfl Ec (by simp;omega) Ec];congr 3;simp only [qxk,wr8,Ae,Bn];rw [Ay b1 b2,Ay b3 b4,Ay b5 b6,Ay Ec Ec]
theorem qxm {f:GFrame} (h0:qak f≠0) {fu:Nat}:qie fu f=some (strOfNums [],qak f):=by
 unfold qie;rw [qaa,qag (by simpa using h0)];rfl
abbrev Bz := @List.getElem_of_mem
theorem qs4 {l:List Int} (h:qaq l=true):∀ i,i<l.length→(i:Int)≤l.getD i 0∧l.getD i 0<32:=by
 unfold qaq at h;rw [qff] at h;intro i
 induction i with
 | zero =>
  intro hi;have:=h 0 hi;unfold qib at this;simp only [Xn,decide_eq_true_eq] at this;exact ⟨by have:=this.1.1;simpa using this,this.1.2⟩
 | succ i ih =>
  intro hi;have h1:=ih Ec;have:=h (i+1) hi;unfold qib at this;simp only [Xn,decide_eq_true_eq,B1,beq_iff_eq,Nat.add_sub_cancel] at this;refine ⟨?_,this.1.2⟩;rcases this.2 with h2 | h2
  ·omega
  ·push_cast;omega
theorem qgw {l:List Int} (h:qaq l=true):l.length≤32:=by
 rcases Bx 32 l.length with h1 | h1
 ·have:=qs4 h 32 h1;omega
 ·exact h1
theorem qxn {l:List Int} (h:qaq l=true):∀ n∈l,0≤n∧n<32:=by
 intro n hn;obtain ⟨i,hi,rfl⟩:=Bz hn;have:=qs4 h i hi;rw [Ac,Xl hi] at this;simp only [X1] at this;omega
theorem qdk {l:List GOp} (h:qao l=true):0<l.length∧l.length≤4:=by
 unfold qao at h;simp only [Xn,decide_eq_true_eq] at h;omega
theorem qoc {l:List GOp} (h:qao l=true):∀ o∈l,1≤o.kind∧o.kind≤3∧0≤o.key∧o.key<8 ∧ -1099511627776≤o.n∧o.n≤1099511627776:=by
 intro o ho;unfold qao at h;simp only [Xn] at h;have h1:=(qff _ _).1 h.1;obtain ⟨i,hi,rfl⟩:=Bz ho;have:=h1 i hi;unfold q3z at this;rw [Ac,Xl hi] at this;simp only [X1,Xn] at this;have:=this.1;unfold qc5 at this;simp only [decide_eq_true_eq] at this;omega
theorem qz1 {f:GFrame} (h:qak f=0):FOk f:=by
 unfold qak at h;split at h
 ·cases h
 ·rename_i hk;split at h
  ·cases h
  ·rename_i hn;split at h
   ·rename_i hp;simp only [Xn] at hp;obtain ⟨h1,h2,h3⟩:=hp;have ho:f.ops.length≤4∧∀ o∈f.ops,0≤o.kind∧o.kind<256∧0≤o.key∧o.key<256 ∧ -1099511627776≤o.n∧o.n≤1099511627776:=by
     unfold qkf at h1;split at h1
     ·refine ⟨(qdk h1).2,fun o ho=>?_⟩;have:=qoc h1 o ho;omega
     ·have:f.ops=[]:=X2.1 (by simpa using h1);rw [this];simp
    have hd:f.deps.length≤32∧∀ n∈f.deps,0≤n∧n<32:=by
     unfold qg5 at h2;split at h2
     ·simp only [Xn] at h2;exact ⟨qgw h2.1,qxn h2.1⟩
     ·have:f.deps=[]:=X2.1 (by simpa using h2);rw [this];simp
    unfold qma at h3;simp only [Xn,beq_iff_eq] at h3;obtain ⟨_,h4,h5,h6⟩:=h3;rw [qff] at h5 h6;have ha:∀ i,i<f.at_.length→(i:Int)≤f.at_.getD i 0∧f.at_.getD i 0<4:=by
     intro i
     induction i with
     | zero =>
      intro hi;have:=h5 0 hi;unfold q58 at this;simp only [Xn,decide_eq_true_eq] at this;exact ⟨by have:=this.1.1;simpa using this,this.1.2⟩
     | succ i ih =>
      intro hi;have e1:=ih Ec;have:=h5 (i+1) hi;unfold q58 at this;simp only [Xn,decide_eq_true_eq,B1,beq_iff_eq,Nat.add_sub_cancel] at this;refine ⟨?_,this.1.2⟩;rcases this.2 with e2 | e2
      ·omega
      ·push_cast;omega
    have hl:f.at_.length≤4:=by
     rcases Bx 4 f.at_.length with e1 | e1
     ·have:=ha 4 e1;omega
     ·exact e1
    refine ⟨ho.1,ho.2,hd.1,hd.2,hl,fun n hn=>?_,h4.symm,fun v hv=>?_,by omega⟩
    ·obtain ⟨i,hi,rfl⟩:=Bz hn;have:=ha i hi;rw [Ac,Xl hi] at this;simp only [X1] at this;omega
    ·obtain ⟨i,hi,rfl⟩:=Bz hv;have:=h6 i hi;unfold q1o at this;rw [Ac,Xl hi] at this;simpa using this
   ·cases h
def qz2 (f:GFrame):ByteArray × Int:=if qak f=0 then (strOfNums (qxk f),0) else (strOfNums [],qak f)
theorem qxo (f:GFrame) {fu:Nat} (hfu:40≤fu):qie fu f=some (qz2 f):=by
 unfold qz2;by_cases h:qak f=0
 ·rw [if_pos h,qxl (qz1 h) h hfu]
 ·rw [if_neg h,qxm h]
abbrev Dw := @Int.eq_ofNat_of_zero_le
abbrev Dx := @Option.bind_some
def byL (s:ByteArray):List Int:=s.data.toList.map fun b=>(b.toNat:Int)
theorem qko (s:ByteArray):(byL s).length=s.size:=by
 unfold byL;rw [A6];rfl
theorem qlf {s:ByteArray} {c:Int} (h:c∈byL s):0≤c∧c<256:=by
 unfold byL at h;obtain ⟨b,_,rfl⟩:=Be.1 h;have:=b.toNat_lt;omega
theorem qz3 (s:ByteArray) (k:Nat):qyj s (k:Int)=(byL s)[k]? := by
 unfold qyj byL;rw [if_pos (Bj k),X6];have e:((k:Int)).toNat=k:=rfl;rw [e];by_cases hk:k<s.size
 ·have h2:k<s.data.toList.length:=hk;rw [Xl h2];have:s[k]? = some s[k]:=getElem?_pos s k hk;rw [this];rfl
 ·have h2:s.data.toList.length≤k:=by have:s.data.toList.length=s.size:=rfl;omega
  rw [Ao h2];have:s[k]? = none:=getElem?_neg s k hk;rw [this]
theorem qz4 {s:ByteArray} {k:Nat} (hk:k≤s.size):∃ s',qwx s (some (k:Int)) none=some s'∧byL s'=(byL s).drop k:=by
 unfold qwx qe0;simp only [X1,A8];rw [if_pos Ec];refine ⟨_,rfl,?_⟩;unfold byL;rw [Go.Lib.extract_data,← Eb];congr 1;have e:((s.size:Int)).toNat=s.size:=rfl;have e2:((k:Int)).toNat=k:=rfl;simp only [e,e2];refine List.take_of_length_le ?_;have:s.data.toList.length=s.size:=rfl;rw [Ba];omega
theorem qis {s:ByteArray}:(s.toList==(⟨#[]⟩:ByteArray).toList)=(byL s).isEmpty:=by
 rw [ByteArray.toList_eq,ByteArray.toList_eq,Ar];unfold byL;simp
def q3e (a b c d e f:Int):Int:=((((a*256+b)*256+c)*256+d)*256+e)*256+f-140737488355328
def q2b:Nat→List Int→Option (List GOp × List Int)
 | 0,l=>some ([],l)
 | n+1,k::y::a::b::c::d::e::f::t=>(q2b n t).map fun p=>(⟨k,y,q3e a b c d e f⟩::p.1,p.2)
 | _+1,_=>none
def qz5 (n:Nat) (l:List Int):Option (List Int × List Int):=if n≤l.length then some (l.take n,l.drop n) else none
def q2c:Nat→List Int→Option (List Int × List Int × List Int)
 | 0,l=>some ([],[],l)
 | n+1,k::a::b::c::d::e::f::t=>(q2c n t).map fun p=>(k::p.1,q3e a b c d e f::p.2.1,p.2.2)
 | _+1,_=>none
def q2d (kd nd id:Int) (os:List GOp) (ds:List Int):List Int→Option (GFrame × List Int)
 | k::u=>(q2c k.toNat u).map fun z=>(⟨kd,nd,id,os,ds,z.1,z.2.1⟩,z.2.2)
 | []=>none
def q2e (kd nd id:Int) (os:List GOp):List Int→Option (GFrame × List Int)
 | m::r=>(qz5 m.toNat r).bind fun q=>q2d kd nd id os q.1 q.2
 | []=>none
def qs5:List Int→Option (GFrame × List Int)
 | kd::nd::id::no::t=>(q2b no.toNat t).bind fun p=>q2e kd nd id p.1 p.2
 | _=>none
def noF:GFrame:=⟨0,0,0,[],[],[],[]⟩
def q5k:Option (GFrame × List Int)→GFrame × Int
 | some (f,[])=>bif qak f==0 then (f,0) else (noF,1)
 | _=>(noF,1)
def qod (l:List Int):GFrame × Int:=q5k (qs5 l)
structure Rd8 (x:GReader) (l:List Int):Prop where
 s:byL x.s=l
 ok:x.bad=false
 small:x.s.size≤140737488351232
def qty (x:GReader):Prop:=x.bad=true∧x.s.size≤140737488351232
theorem qbq {fu:Nat} {x:GReader} {c:Int} {t:List Int} (h:Rd8 x (c::t)):∃ x',qcx fu x=some (c,x')∧Rd8 x' t:=by
 have hlen:=qko x.s;rw [h.s,Xy] at hlen;obtain ⟨s',h1,h2⟩:=qz4 (s:=x.s) (k:=1) Ec;have h1:qwx x.s (some 1) none=some s':=h1;have hs':=qko s';rw [h2,Ba,qko] at hs';have hsm:=h.small;have hi:qyj x.s 0=some c:=by
  have:=qz3 x.s 0;rw [h.s] at this;exact this
 have hc:=qlf (s:=x.s) (c:=c) (by rw [h.s];exact Xk);refine ⟨{ x with s:=s' },?_,⟨by rw [h2,h.s];rfl,h.ok,by show s'.size≤_;omega⟩⟩;unfold qcx;rw [qis,h.s,qad (by rfl),hi,qaa,h1,qaa,qg9 Ec,qaa,qaa,qc6 Ec Ec]
theorem qc0 {fu:Nat} {x:GReader} (h:Rd8 x []):∃ x',qcx fu x=some (0,x')∧qty x':=by
 refine ⟨{ x with bad:=true },?_,rfl,h.small⟩;unfold qcx;rw [qis,h.s,qag (by rfl),qaa]
theorem qit {fu:Nat} {x:GReader} (h:qty x):∃ v x',qcx fu x=some (v,x')∧qty x':=by
 cases hl:byL x.s with
 | nil =>
  refine ⟨0,{ x with bad:=true },?_,rfl,h.2⟩;unfold qcx;rw [qis,hl,qag (by rfl),qaa]
 | cons c t =>
  have hlen:=qko x.s;rw [hl,Xy] at hlen;obtain ⟨s',h1,h2⟩:=qz4 (s:=x.s) (k:=1) Ec;have h1:qwx x.s (some 1) none=some s':=h1;have hs':=qko s';rw [h2,Ba,qko] at hs';have hsm:=h.2;have hi:qyj x.s 0=some c:=by
   have:=qz3 x.s 0;rw [hl] at this;exact this
  refine ⟨IntKind.wrap .i64 c,{ x with s:=s' },?_,h.1,by show s'.size≤_;omega⟩;unfold qcx;rw [qis,hl,qad (by rfl),hi,qaa,h1,qaa,qg9 Ec,qaa,qaa]
theorem qwc {y c:Int} (h0:0≤y) (h1:y<1099511627776) (hc0:0≤c) (hc1:c<256):orI .i64 (IntKind.wrap .i64 (y*2 ^ (min (Int.toNat 8) (IntKind.bits .i64)))) c=y*256+c:=by
 have e:(2:Int) ^ (min (Int.toNat 8) (IntKind.bits .i64))=256:=by decide
 rw [e,qc6 Ec Ec];obtain ⟨a,rfl⟩:=Dw h0;obtain ⟨b,rfl⟩:=Dw hc0;exact q2a a b Ec Ec
theorem qgg {fu:Nat}:∀ (n m:Nat) (x:GReader) (y:Int) (k:Int),(6-k).toNat=m→0≤k→m<n→qty x→∃ v x',qbi fu n x y k=some (v,x')∧qty x'
 | 0,m,x,y,k,_,_,h,_=>absurd h Ec
 | n+1,m,x,y,k,hm,hk,hn,hx=>by
  rw [qbi];by_cases h:k<6
  ·obtain ⟨v,x',h1,h2⟩:=qit (fu:=fu) hx;rw [qag (qaf h),h1,qaa,qc6 (x:=k+1) Ec Ec];exact qgg n (m-1) x' _ (k+1) Ec Ec Ec h2
  ·rw [qad (qae h)];exact ⟨_,x,rfl,hx⟩
theorem qiu {fu:Nat} (hf:8≤fu) {x:GReader} (hx:qty x):∃ v x',qe3 fu x=some (v,x')∧qty x':=qgg fu 6 x 0 0 rfl Ec Ec hx
theorem qds {fu n:Nat} {x:GReader} {c:Int} {t:List Int} (h:Rd8 x (c::t)) {y k:Int} (hk:k<6) (hk0:0≤k) (h0:0≤y) (h1:y<1099511627776):∃ x',qbi fu (n+1) x y k=qbi fu n x' (y*256+c) (k+1)∧Rd8 x' t:=by
 obtain ⟨x',h2,h3⟩:=qbq (fu:=fu) h;have hc:=qlf (s:=x.s) (c:=c) (by rw [h.s];exact Xk);refine ⟨x',?_,h3⟩;rw [qbi,qag (qaf hk),h2,qaa,qwc h0 h1 hc.1 hc.2,qc6 (x:=k+1) Ec Ec]
theorem qoe {fu:Nat} (hf:8≤fu) {x:GReader} {a b c d e f:Int} {t:List Int} (h:Rd8 x (a::b::c::d::e::f::t)):∃ x',qe3 fu x=some (q3e a b c d e f,x')∧Rd8 x' t:=by
 have hr:∀ z∈[a,b,c,d,e,f],0≤z∧z<256:=fun z hz=>qlf (s:=x.s) (by rw [h.s];simp at hz ⊢;rcases hz with rfl | rfl | rfl | rfl | rfl | rfl<;>simp);have ha:=hr a (by simp);have hb:=hr b (by simp);have hc:=hr c (by simp);have hd:=hr d (by simp);have he:=hr e (by simp);have hff:=hr f (by simp);obtain ⟨n,rfl⟩:∃ n,fu=n+7:=⟨fu-7,by omega⟩;obtain ⟨x1,e1,r1⟩:=qds (fu:=n+7) (n:=n+6) h (y:=0) (k:=0) Ec Ec Ec Ec;obtain ⟨x2,e2,r2⟩:=qds (fu:=n+7) (n:=n+5) r1 (y:=0*256+a) (k:=0+1) Ec Ec Ec Ec;obtain ⟨x3,e3,r3⟩:=qds (fu:=n+7) (n:=n+4) r2 (y:=(0*256+a)*256+b) (k:=0+1+1) Ec Ec Ec Ec;obtain ⟨x4,e4,r4⟩:=qds (fu:=n+7) (n:=n+3) r3 (y:=((0*256+a)*256+b)*256+c) (k:=0+1+1+1) Ec Ec Ec Ec;obtain ⟨x5,e5,r5⟩:=qds (fu:=n+7) (n:=n+2) r4 (y:=(((0*256+a)*256+b)*256+c)*256+d) (k:=0+1+1+1+1) Ec Ec Ec Ec;obtain ⟨x6,e6,r6⟩:=qds (fu:=n+7) (n:=n+1) r5 (y:=((((0*256+a)*256+b)*256+c)*256+d)*256+e) (k:=0+1+1+1+1+1) Ec Ec Ec Ec;refine ⟨x6,?_,r6⟩;unfold qe3;rw [e1,e2,e3,e4,e5,e6,qbi,qad (by rfl),qc6 Ec Ec];unfold q3e;rw [Int.zero_mul,Int.zero_add]
theorem qhw {fu:Nat}:∀ (t:List Int) (n:Nat) (x:GReader) (y k:Int),Rd8 x t→(t.length:Int)+k<6→0≤k→(6-k).toNat<n→∃ v x',qbi fu n x y k=some (v,x')∧qty x'
 | _,0,x,y,k,_,_,_,h=>absurd h Ec
 | [],n+1,x,y,k,hx,hs,hk,hn=>by
  obtain ⟨x',h1,h2⟩:=qc0 (fu:=fu) hx;simp at hs;rw [qbi,qag (qaf hs),h1,qaa,qc6 (x:=k+1) Ec Ec];exact qgg n (6-(k+1)).toNat x' _ (k+1) rfl Ec Ec h2
 | c::t,n+1,x,y,k,hx,hs,hk,hn=>by
  obtain ⟨x',h1,h2⟩:=qbq (fu:=fu) hx;simp at hs;rw [qbi,qag (qaf Ec),h1,qaa,qc6 (x:=k+1) Ec Ec];exact qhw t n x' _ (k+1) h2 Ec Ec Ec
theorem qjz {fu:Nat} (hf:8≤fu) {x:GReader} {t:List Int} (h:Rd8 x t) (hs:t.length<6):∃ v x',qe3 fu x=some (v,x')∧qty x':=qhw t fu x 0 0 h Ec Ec Ec
section
variable {fu:Nat}
theorem qjn {n:Nat} {x:GReader} {d:GFrame} {y:Int} (hx:qty x):qcb fu (n+1) x d y=some (noF,1):=by
 rw [qcb];unfold qft qfs;rw [hx.1];cases decide (y>0)<;>rfl
theorem qlz {n:Nat} (hf:8≤fu) {x:GReader} {d:GFrame} {y:Int} (hx:qty x):qcn fu (n+1) x d y=some (noF,1):=by
 obtain ⟨v,x',h1,h2⟩:=qit (fu:=fu) hx;obtain ⟨m,rfl⟩:∃ m,fu=m+1:=⟨fu-1,by omega⟩;have h3:=qjn (fu:=m+1) (n:=m) (d:=d) (y:=v) h2;rw [qcn];unfold qfu;rw [hx.1];cases decide (y>0)
 ·simp only [cond_false];rw [h1,qaa];exact h3
 ·simp only [cond_true,Af,cond_false];rw [h1,qaa];exact h3
theorem qqg {n:Nat} (hf:8≤fu) {x:GReader} {d:GFrame} {y:Int} (hx:qty x):qcc fu (n+1) x d y=some (noF,1):=by
 obtain ⟨v,x',h1,h2⟩:=qit (fu:=fu) hx;obtain ⟨m,rfl⟩:∃ m,fu=m+1:=⟨fu-1,by omega⟩;have h3:=qlz (fu:=m+1) (n:=m) hf (d:=d) (y:=v) h2;rw [qcc];unfold qfv;rw [hx.1];cases decide (y>0)
 ·simp only [cond_false];rw [h1,qaa];exact h3
 ·simp only [cond_true,Af,cond_false];rw [h1,qaa];exact h3
theorem q4s {x:GReader} {l:List Int} (hx:Rd8 x l) {n:Nat} {d:GFrame} {y:Int} (hy:¬ y>0):qcb fu (n+1) x d y=some (q5k (some (d,l))):=by
 rw [qcb,qad (qae hy)];unfold qft qfs qk8;rw [qad rfl,hx.ok,qad rfl,qis,hx.s];cases l with
 | nil =>
  rw [qad (by rfl),qaa];have e0:q5k (some (d,[]))=bif qak d==0 then (d,0) else (noF,1):=rfl;rw [e0];by_cases h:qak d=0
  ·rw [h];rfl
  ·have e1:(qak d != 0)=true:=by simp [h]
   have e2:(qak d==0)=false:=by simp [h]
   rw [e1,e2];rfl
 | cons c t=>rfl
theorem qs6 (hf:12≤fu):∀ (m n:Nat) (x:GReader) (l:List Int) (d:GFrame),m<n→m<256→d.at_.length+m≤300→d.vals.length+m≤300→Rd8 x l →
 qcb fu n x d m=some (q5k ((q2c m l).map fun z=>({ d with at_:=d.at_++z.1,vals:=d.vals++z.2.1 },z.2.2)))
 | m,0,_,_,_,h,_,_,_,_=>absurd h Ec
 | 0,n+1,x,l,d,_,_,_,_,hx=>by
  rw [q4s hx Ec,q2c];have e:({ d with at_:=d.at_++[],vals:=d.vals++[] }:GFrame)=d:=by simp
  simp only [Option.map_some];rw [e]
 | m+1,n+1,x,l,d,hn,hm,ha,hv,hx=>by
  have hy:(((m+1:Nat):Int))>0:=by omega
  have e1:IntKind.wrap .i64 (((m+1:Nat):Int)-1)=(m:Int):=by rw [qc6 Ec Ec];omega
  rw [qcb,qag (qaf hy)];unfold qft qk7;rw [hx.ok,qag (c := !false) rfl];cases l with
  | nil =>
   obtain ⟨x',h1,h2⟩:=qc0 (fu:=fu) hx;obtain ⟨v,x2,h3,h4⟩:=qiu (fu:=fu) Ec h2;simp only [h1,h3,qaa];rw [qbs (by have:Rep.bytes Int=8:=rfl;rw [this];simp;omega),qaa,qbs (by have:Rep.bytes Int=8:=rfl;rw [this];simp;omega),qaa,e1];obtain ⟨n,rfl⟩:∃ q,n=q+1:=⟨n-1,by omega⟩;rw [qjn h4];rfl
  | cons k t =>
   obtain ⟨x',h1,h2⟩:=qbq (fu:=fu) hx;by_cases h6:t.length<6
   ·obtain ⟨v,x2,h3,h4⟩:=qjz (fu:=fu) Ec h2 h6;simp only [h1,h3,qaa];rw [qbs (by have:Rep.bytes Int=8:=rfl;rw [this];simp;omega),qaa,qbs (by have:Rep.bytes Int=8:=rfl;rw [this];simp;omega),qaa,e1];obtain ⟨n,rfl⟩:∃ q,n=q+1:=⟨n-1,by omega⟩;rw [qjn h4];have:q2c (m+1) (k::t)=none:=by
     match t,h6 with
     | [],_=>rfl
     | [_],_=>rfl
     | [_,_],_=>rfl
     | [_,_,_],_=>rfl
     | [_,_,_,_],_=>rfl
     | [_,_,_,_,_],_=>rfl
     | _::_::_::_::_::_::_,h=>simp at h;omega
    rw [this];rfl
   ·obtain ⟨a,b,c,e,f,g,u,rfl⟩:∃ a b c e f g u,t=a::b::c::e::f::g::u:=by
     match t,h6 with
     | [],h=>simp at h
     | [_],h=>simp at h
     | [_,_],h=>simp at h
     | [_,_,_],h=>simp at h
     | [_,_,_,_],h=>simp at h
     | [_,_,_,_,_],h=>simp at h
     | a::b::c::e::f::g::u,_=>exact ⟨a,b,c,e,f,g,u,rfl⟩
    obtain ⟨x2,h3,h4⟩:=qoe (fu:=fu) Ec h2;simp only [h1,h3,qaa];rw [qbs (by have:Rep.bytes Int=8:=rfl;rw [this];simp;omega),qaa,qbs (by have:Rep.bytes Int=8:=rfl;rw [this];simp;omega),qaa,e1];rw [qs6 hf m n x2 u { d with at_:=d.at_++[k],vals:=d.vals++[q3e a b c e f g] } Ec Ec (by simp;omega) (by simp;omega) h4,q2c];cases hp:q2c m u with
    | none=>rfl
    | some p=>simp [X8]
theorem qs7 (hf:300≤fu):∀ (m n:Nat) (x:GReader) (l:List Int) (d:GFrame),m<n→m<256→d.deps.length+m≤300→d.at_=[]→d.vals=[]→Rd8 x l→(∀ c∈l,0≤c∧c<256) →
 qcn fu n x d m=some (q5k ((qz5 m l).bind fun q=>q2d d.kind d.node d.id d.ops (d.deps++q.1) q.2))
 | m,0,_,_,_,h,_,_,_,_,_,_=>absurd h Ec
 | 0,n+1,x,l,d,_,_,_,ha,hv,hx,hr=>by
  rw [qcn,qad (qae Ec)];unfold qfu;rw [qad rfl];cases l with
  | nil =>
   obtain ⟨x',h1,h2⟩:=qc0 (fu:=fu) hx;obtain ⟨q,rfl⟩:∃ q,fu=q+1:=⟨fu-1,by omega⟩;rw [h1,qaa];simp only;rw [qjn h2];rfl
  | cons k u =>
   obtain ⟨x',h1,h2⟩:=qbq (fu:=fu) hx;have hk:=hr k Xk;rw [h1,qaa];simp only;have e:k=((k.toNat:Nat):Int):=by omega
   have h3:=qs6 (fu:=fu) Ec k.toNat fu x' u d Ec Ec (by rw [ha];simp;omega) (by rw [hv];simp;omega) h2;rw [← e] at h3;rw [h3,ha,hv];simp [qz5,q2d]
 | m+1,n+1,x,l,d,hn,hm,hd,ha,hv,hx,hr=>by
  have hy:(((m+1:Nat):Int))>0:=by omega
  have e1:IntKind.wrap .i64 (((m+1:Nat):Int)-1)=(m:Int):=by rw [qc6 Ec Ec];omega
  rw [qcn,qag (qaf hy)];unfold qfu qk6;rw [hx.ok,qag (c := !false) rfl];cases l with
  | nil =>
   obtain ⟨x',h1,h2⟩:=qc0 (fu:=fu) hx;simp only [h1,qaa];rw [qbs (by have:Rep.bytes Int=8:=rfl;rw [this];simp;omega),qaa,e1];obtain ⟨n,rfl⟩:∃ q,n=q+1:=⟨n-1,by omega⟩;rw [qlz Ec h2];rfl
  | cons k t =>
   obtain ⟨x',h1,h2⟩:=qbq (fu:=fu) hx;simp only [h1,qaa];rw [qbs (by have:Rep.bytes Int=8:=rfl;rw [this];simp;omega),qaa,e1];rw [qs7 hf m n x' t { d with deps:=d.deps++[k] } Ec Ec (by simp;omega) ha hv h2 (fun c hc=>hr c (Xj _ hc))];unfold qz5;by_cases hle:m≤t.length
   ·rw [if_pos hle,if_pos (show m+1≤(k::t).length by simp;exact hle)];simp only [List.take_succ_cons,List.drop_succ_cons,X8,Bo,A5,Dx]
   ·rw [if_neg hle,if_neg (show ¬ m+1≤(k::t).length by simp;omega)];rfl
theorem qxp {m:Nat} {t:List Int} (h:t.length<8):q2b (m+1) t=none:=by
 match t,h with
 | [],_=>rfl
 | [_],_=>rfl
 | [_,_],_=>rfl
 | [_,_,_],_=>rfl
 | [_,_,_,_],_=>rfl
 | [_,_,_,_,_],_=>rfl
 | [_,_,_,_,_,_],_=>rfl
 | [_,_,_,_,_,_,_],_=>rfl
 | _::_::_::_::_::_::_::_::_,h=>simp at h;omega
theorem q2f {t:List Int} (h:¬ t.length<8):∃ k y a b c d e f u,t=k::y::a::b::c::d::e::f::u:=by
 match t,h with
 | [],h=>simp at h
 | [_],h=>simp at h
 | [_,_],h=>simp at h
 | [_,_,_],h=>simp at h
 | [_,_,_,_],h=>simp at h
 | [_,_,_,_,_],h=>simp at h
 | [_,_,_,_,_,_],h=>simp at h
 | [_,_,_,_,_,_,_],h=>simp at h
 | k::y::a::b::c::d::e::f::u,_=>exact ⟨k,y,a,b,c,d,e,f,u,rfl⟩
theorem qs8 (hf:300≤fu):∀ (m n:Nat) (x:GReader) (l:List Int) (d:GFrame),m<n→m<256→d.ops.length+m≤300→d.deps=[]→d.at_=[]→d.vals=[]→Rd8 x l→(∀ c∈l,0≤c∧c<256) →
 qcc fu n x d m=some (q5k ((q2b m l).bind fun p=>q2e d.kind d.node d.id (d.ops++p.1) p.2))
 | m,0,_,_,_,h,_,_,_,_,_,_,_=>absurd h Ec
 | 0,n+1,x,l,d,_,_,_,hdd,ha,hv,hx,hr=>by
  rw [qcc,qad (qae Ec)];unfold qfv;rw [qad rfl,q2b];simp only [Option.bind_some,List.append_nil];cases l with
  | nil =>
   obtain ⟨x',h1,h2⟩:=qc0 (fu:=fu) hx;obtain ⟨q,rfl⟩:∃ q,fu=q+1:=⟨fu-1,by omega⟩;rw [h1,qaa];simp only;rw [qlz Ec h2];rfl
  | cons k u =>
   obtain ⟨x',h1,h2⟩:=qbq (fu:=fu) hx;have hk:=hr k List.mem_cons_self;rw [h1,qaa];simp only;have e:k=((k.toNat:Nat):Int):=by omega
   have h3:=qs7 (fu:=fu) hf k.toNat fu x' u d Ec Ec (by rw [hdd];simp;omega) ha hv h2 (fun c hc=>hr c (List.mem_cons_of_mem _ hc));rw [← e] at h3;rw [h3,hdd];simp [q2e]
 | m+1,n+1,x,l,d,hn,hm,ho,hdd,ha,hv,hx,hr=>by
  have hy:(((m+1:Nat):Int))>0:=by omega
  have e1:IntKind.wrap .i64 (((m+1:Nat):Int)-1)=(m:Int):=by rw [qc6 Ec Ec];omega
  rw [qcc,qag (qaf hy)];unfold qfv qk5;rw [hx.ok,qag (c := !false) rfl];by_cases h8:l.length<8
  ·rw [qxp h8];have hbad:∃ v1 x1 v2 x2 v3 x3,qcx fu x=some (v1,x1)∧qcx fu x1=some (v2,x2)∧qe3 fu x2=some (v3,x3)∧qty x3:=by
    cases l with
    | nil =>
     obtain ⟨x1,h1,r1⟩:=qc0 (fu:=fu) hx;obtain ⟨v2,x2,h2,r2⟩:=qit (fu:=fu) r1;obtain ⟨v3,x3,h3,r3⟩:=qiu (fu:=fu) Ec r2;exact ⟨_,x1,v2,x2,v3,x3,h1,h2,h3,r3⟩
    | cons c t =>
     obtain ⟨x1,h1,r1⟩:=qbq (fu:=fu) hx;cases t with
     | nil =>
      obtain ⟨x2,h2,r2⟩:=qc0 (fu:=fu) r1;obtain ⟨v3,x3,h3,r3⟩:=qiu (fu:=fu) Ec r2;exact ⟨_,x1,_,x2,v3,x3,h1,h2,h3,r3⟩
     | cons c2 u =>
      obtain ⟨x2,h2,r2⟩:=qbq (fu:=fu) r1;obtain ⟨v3,x3,h3,r3⟩:=qjz (fu:=fu) Ec r2 (by simp at h8;omega);exact ⟨_,x1,_,x2,v3,x3,h1,h2,h3,r3⟩
   obtain ⟨v1,x1,v2,x2,v3,x3,h1,h2,h3,r3⟩:=hbad;simp only [h1,h2,h3,qaa];rw [qbs (by have:Rep.bytes GOp=24:=rfl;rw [this];simp;omega),qaa,e1];obtain ⟨n,rfl⟩:∃ q,n=q+1:=⟨n-1,by omega⟩;rw [qqg Ec r3];rfl
  ·obtain ⟨k,y,a,b,c,dd,e,f,u,rfl⟩:=q2f h8;obtain ⟨x1,h1,r1⟩:=qbq (fu:=fu) hx;obtain ⟨x2,h2,r2⟩:=qbq (fu:=fu) r1;obtain ⟨x3,h3,r3⟩:=qoe (fu:=fu) Ec r2;simp only [h1,h2,h3,qaa];rw [qbs (by have:Rep.bytes GOp=24:=rfl;rw [this];simp;omega),qaa,e1];rw [qs8 hf m n x3 u { d with ops:=d.ops++[⟨k,y,q3e a b c dd e f⟩] } Ec Ec (by simp;omega) hdd ha hv r3 (fun z hz=>hr z (by simp [hz])),q2b];cases hp:q2b m u with
   | none=>rfl
   | some p=>simp [X8]
theorem qqh (hf:300≤fu) {s:ByteArray} (hs:s.size≤140737488351232):qly fu s=some (qod (byL s)):=by
 have hr:∀ c∈byL s,0≤c∧c<256:=fun c hc=>qlf hc;have hx:Rd8 { s:=s,bad:=Zr.zd } (byL s):=⟨rfl,rfl,hs⟩;unfold qly;rw [qg9 hs,qaa,qaa];generalize byL s=l at hr hx;have hbad:∀ {x:GReader} {d:GFrame} {y:Int},qty x→qcc fu fu x d y=some (noF,1):=fun {x d y} h=>by
  obtain ⟨q,hq⟩:∃ q,fu=q+1:=⟨fu-1,by omega⟩;have:=qqg (fu:=fu) (n:=q) Ec (d:=d) (y:=y) h;rw [← hq] at this;exact this
 have b1:∀ {x:GReader},qty x→∃ v x',qcx fu x=some (v,x')∧qty x':=fun h=>qit h
 match l,hx,hr with
 | [],hx,_ =>
  obtain ⟨x1,h1,r1⟩:=qc0 (fu:=fu) hx;obtain ⟨v2,x2,h2,r2⟩:=b1 r1;obtain ⟨v3,x3,h3,r3⟩:=b1 r2;obtain ⟨v4,x4,h4,r4⟩:=b1 r3;simp only [h1,h2,h3,h4,qaa];rw [hbad r4];rfl
 | [a],hx,_ =>
  obtain ⟨x1,h1,r1⟩:=qbq (fu:=fu) hx;obtain ⟨x2,h2,r2⟩:=qc0 (fu:=fu) r1;obtain ⟨v3,x3,h3,r3⟩:=b1 r2;obtain ⟨v4,x4,h4,r4⟩:=b1 r3;simp only [h1,h2,h3,h4,qaa];rw [hbad r4];rfl
 | [a,b],hx,_ =>
  obtain ⟨x1,h1,r1⟩:=qbq (fu:=fu) hx;obtain ⟨x2,h2,r2⟩:=qbq (fu:=fu) r1;obtain ⟨x3,h3,r3⟩:=qc0 (fu:=fu) r2;obtain ⟨v4,x4,h4,r4⟩:=b1 r3;simp only [h1,h2,h3,h4,qaa];rw [hbad r4];rfl
 | [a,b,c],hx,_ =>
  obtain ⟨x1,h1,r1⟩:=qbq (fu:=fu) hx;obtain ⟨x2,h2,r2⟩:=qbq (fu:=fu) r1;obtain ⟨x3,h3,r3⟩:=qbq (fu:=fu) r2;obtain ⟨x4,h4,r4⟩:=qc0 (fu:=fu) r3;simp only [h1,h2,h3,h4,qaa];rw [hbad r4];rfl
 | a::b::c::no::t,hx,hr =>
  obtain ⟨x1,h1,r1⟩:=qbq (fu:=fu) hx;obtain ⟨x2,h2,r2⟩:=qbq (fu:=fu) r1;obtain ⟨x3,h3,r3⟩:=qbq (fu:=fu) r2;obtain ⟨x4,h4,r4⟩:=qbq (fu:=fu) r3;simp only [h1,h2,h3,h4,qaa];have hno:=hr no (by simp);have e:no=((no.toNat:Nat):Int):=by omega
  have h5:=qs8 (fu:=fu) hf no.toNat fu x4 t { kind:=a,node:=b,id:=c,ops:=Zr.zd,deps:=Zr.zd,at_:=Zr.zd,vals:=Zr.zd } Ec Ec (by show ([]:List GOp).length+_≤_;simp;omega) rfl rfl rfl r4 (fun z hz=>hr z (by simp [hz]));rw [← e] at h5;rw [h5];rfl
end
abbrev Bg := @Int.toNat_natCast
abbrev Br := @ByteArray.size_extract
abbrev A2 := @List.length_singleton
theorem q5l (k:Nat) (h:k≤17592186043904):IntKind.wrap .i64 ((k:Int)+1)=((k+1:Nat):Int):=by rw [qc6 Ec Ec];omega
theorem q7e {s:ByteArray} (h:s.size≤400):strOfNums (([⟨IntKind.wrap .u8 (Int.fdiv (s.size:Int) (2 ^ (min (Int.toNat 8) (IntKind.bits .i64))))⟩,⟨IntKind.wrap .u8 (s.size:Int)⟩]:List Byt).map Byt.val)=strOfNums [(s.size:Int) / 256,(s.size:Int)%256]:=by
 have e:(2:Int) ^ (min (Int.toNat 8) (IntKind.bits .i64))=256:=by decide
 have e1:IntKind.wrap .u8 (Int.fdiv (s.size:Int) (2 ^ (min (Int.toNat 8) (IntKind.bits .i64))))=(s.size:Int) / 256:=by
  rw [e,wr8,Dm _ Ec];omega
 have e2:IntKind.wrap .u8 (s.size:Int)=(s.size:Int)%256:=wr8 _;simp only [Ae,Bn,e1,e2]
theorem qrk {log s:ByteArray} {c:Int} (h:qf5 log s=c) (hc:c≠0):qv5 log s=log:=by unfold qv5;rw [h,if_neg hc]
theorem qof {fu:Nat} {log s:ByteArray} (hs:s.size≤140737488351232):qjl fu log s=some (qv5 log s,qf5 log s):=by
 unfold qjl qgq;by_cases h1:65536<log.size
 ·have hc:qf5 log s=2:=by unfold qf5;rw [if_pos h1]
  rw [qag (qaf Ec),qrk hc Ed,hc]
 ·rw [qad (qae Ec)];by_cases h2:s.size=0
  ·have hc:qf5 log s=1:=by unfold qf5;rw [if_neg h1,if_pos (.inl h2)]
   rw [qag (qaf Ec),cond_true,qrk hc Ed,hc]
  ·rw [qad (qae Ec)];by_cases h3:400<s.size
   ·have hc:qf5 log s=1:=by unfold qf5;rw [if_neg h1,if_pos (.inr h3)]
    rw [qaf Ec,cond_true,qrk hc Ed,hc]
   ·rw [qae Ec,cond_false,qc6 (x:=(log.size:Int)+2) Ec Ec,qc6 Ec Ec];by_cases h4:65536<log.size+2+s.size
    ·have hc:qf5 log s=5:=by unfold qf5;rw [if_neg h1,if_neg Ec,if_pos h4]
     rw [qag (qaf Ec),qrk hc Ed,hc]
    ·have hc:qf5 log s=0:=by unfold qf5;rw [if_neg h1,if_neg Ec,if_neg h4]
     have hz:(strOfNums [(s.size:Int) / 256,(s.size:Int)%256]).size=2:=rfl;have hw:qv5 log s=qsn log s:=by unfold qv5;rw [if_pos hc]
     rw [qad (qae Ec),qjk,q7e Ec,q3b Ec,qaa,q3b (by rw [ByteArray.size_append];omega),qaa,hc,hw];rfl
theorem qxq {fu:Nat} {log s:ByteArray} {n:Int} (hs:s.size≤140737488351232):qn4 fu log s n=some (qw9 log s n):=by
 unfold qn4;rw [qof hs,qaa];rcases qra log s with ⟨h0,h1,h2,h3⟩ | ⟨h0,_⟩
 ·have hw:qv5 log s=qsn log s:=by unfold qv5;rw [if_pos h0]
  have hsz:=qlu log s;unfold qw9;rw [h0,hw,qad (by rfl),if_pos rfl];dsimp only;rw [qc6 (x:=((qsn log s).size:Int)-(log.size:Int)) Ec Ec,qc6 Ec Ec];unfold qwx qe0;simp only [X1,A8];rw [if_pos Ec];have e:((log.size:Int)+max 0 (min n (((qsn log s).size:Int)-(log.size:Int)))).toNat=log.size+qup s n:=by
   unfold qup;split
   ·omega
   ·split<;>omega
  rw [e];rfl
 ·unfold qw9;rw [qag (by simpa using h0),if_neg h0]
theorem qz6 {s:ByteArray} {k:Nat} (h:k<s.size):qyj s (k:Int)=some ((s[k]).toNat:Int):=by
 unfold qyj;rw [if_pos Ec,Bg,getElem?_pos s k h];rfl
theorem qz7 {s:ByteArray} {k:Nat} (h:k+2≤s.size):orI .i64 (IntKind.wrap .i64 ((IntKind.wrap .i64 (((s[k]).toNat:Nat):Int))*2 ^ (min (Int.toNat 8) (IntKind.bits .i64)))) (IntKind.wrap .i64 (((s[k+1]).toNat:Nat):Int))=((qhv s[k] s[k+1]:Nat):Int):=by
 have h1:=(s[k]).toNat_lt;have h2:=(s[k+1]).toNat_lt;rw [qc6 (x:=(((s[k]).toNat:Nat):Int)) Ec Ec,qc6 (x:=(((s[k+1]).toNat:Nat):Int)) Ec Ec,qwc Ec Ec Ec Ec];unfold qhv;omega
theorem qmj {log:ByteArray} (hl:log.size≤65536):∀ (n m k:Nat) (acc:List ByteArray),log.size≤k+m→m<n→k≤log.size→qqd log acc k→qc9 log n acc k=some ((qcz log.data.toList).1,((qcz log.data.toList).2:Int))
 | 0,m,k,_,_,h,_,_=>absurd h Ec
 | n+1,m,k,acc,hk,hn,hkl,h=>by
  have hb:Rep.bytes ByteArray=16:=rfl;have hlen:=h.2.2;have hdl:log.data.toList.length=log.size:=rfl;rw [qc9,qc6 (x:=(k:Int)+2) Ec Ec];by_cases h2:k+2≤log.size
  ·have hstop:¬ (1≤qhv log[k] log[k+1]∧qhv log[k] log[k+1]≤400∧qhv log[k] log[k+1]≤log.size-k-2)→some (acc,(k:Int))=some ((qcz log.data.toList).1,((qcz log.data.toList).2:Int)):=fun hno=>by
    have he:qcz (log.data.toList.drop k)=([],0):=by
     rw [qwa h2,qqc (by rw [Ba,hdl];omega)]
    rw [qqe h he]
   have hrn:qhv log[k] log[k+1]<65536:=by
    have h1:=(log[k]).toNat_lt;have h2:=(log[k+1]).toNat_lt;unfold qhv;omega
   have hi:=qz7 h2;rw [qag (qaf Ec),qz6 Ec,qaa,q5l k Ec,qz6 Ec,qaa];simp only [qgs,qlb,qgr,hi];rw [qc6 (x:=(log.size:Int)-(k:Int)) Ec Ec,qc6 (x:=(log.size:Int)-(k:Int)-2) Ec Ec];generalize hr:qhv log[k] log[k+1]=r at hstop hrn;by_cases c1:r<1
   ·rw [qag (qaf Ec),cond_true];exact hstop Ec
   ·rw [qad (qae Ec)];by_cases c2:400<r
    ·rw [qag (qaf Ec),cond_true];exact hstop Ec
    ·rw [qad (qae Ec)];by_cases c3:log.size-k-2<r
     ·rw [qaf Ec,cond_true];exact hstop Ec
     ·rw [qae Ec,cond_false];have hnext:=qu6 h h2 (by rw [hr];omega);rw [hr] at hnext;have e1:IntKind.wrap .i64 ((k:Int)+IntKind.wrap .i64 (2+(r:Int)))=((k+(2+r):Nat):Int):=by
       rw [qc6 (x:=2+(r:Int)) Ec Ec,qc6 Ec Ec];omega
      have e2:qwx log (some (IntKind.wrap .i64 ((k:Int)+2))) (some (IntKind.wrap .i64 (IntKind.wrap .i64 ((k:Int)+2)+(r:Int))))=some (log.extract (k+2) (k+2+r)):=by
       rw [qc6 (x:=(k:Int)+2) Ec Ec,qc6 Ec Ec];unfold qwx qe0;simp only [X1];rw [if_pos Ec];have e:((k:Int)+2).toNat=k+2:=by omega
       have e':((k:Int)+2+(r:Int)).toNat=k+2+r:=by omega
       rw [e,e'];rfl
      have e3:(log.extract (k+2) (k+2+r)).size≤140737488351232:=by
       rw [Br];omega
      rw [qc6 (x:=(k:Int)+2) Ec Ec] at e2
      first
       | rw [e2,qaa,qg9 e3,qaa,qbs (by rw [hb];simp only [A2];omega),qaa,e1]
       | rw [qc6 (x:=(k:Int)+2) Ec Ec,e2,qaa,qg9 e3,qaa,qbs (by rw [hb];simp only [A2];omega),qaa,e1]
      exact qmj hl n (m-1) (k+(2+r)) _ Ec Ec Ec hnext
  ·rw [qad (qae Ec),qgr];have he:qcz (log.data.toList.drop k)=([],0):=qkn (by rw [Ba,hdl];omega);rw [qqe h he]
theorem qxr {fu:Nat} {log:ByteArray} (hl:log.size≤65536) (hf:log.size<fu):qrg fu log=some ((qcz log.data.toList).1,((qcz log.data.toList).2:Int)) :=
 qmj hl fu log.size 0 [] Ec hf Ec (qu5 log)
theorem qog:∀ (n:Nat) (l:List UInt8),l.length≤n→(qcz l).2≤l.length∧(qcz l).1.length≤l.length∧∀ x∈(qcz l).1,x.size≤400
 | n,[],_=>by rw [qkn (by simp)];simp
 | n,[x],_=>by rw [qkn (by simp)];simp
 | 0,a::b::r,h=>by simp at h
 | n+1,a::b::r,h=>by
  by_cases hk:1≤qhv a b∧qhv a b≤400∧qhv a b≤r.length
  ·have ih:=qog n (r.drop (qhv a b)) (by simp at h ⊢;omega);rw [Ba] at ih;rw [qv9 hk];refine ⟨by simp only [Xy];omega,by simp only [Xy];omega,fun x hx=>?_⟩;rcases Xm.1 hx with rfl | hx
   ·show (List.take _ r).toArray.size≤400;simp;omega
   ·exact ih.2.2 x hx
  ·rw [qqc hk];simp
abbrev Bb := @List.countP_cons
abbrev D6 := @List.nodup_cons
abbrev Bl := @Nat.min_le_left
abbrev Bt := @Nat.min_eq_left
abbrev Bq := @Nat.min_eq_right
abbrev Dy := @Nat.min_le_right
inductive Path (E:Nat→Nat→Prop):Nat→Nat→Prop where
 | refl (a:Nat):Path E a a
 | tail {a b c:Nat}:Path E a b→E b c→Path E a c
section
variable {E:Nat→Nat→Prop}
theorem Path.trans {a b c:Nat} (h:Path E a b) (k:Path E b c):Path E a c:=by
 induction k with
 | refl=>exact h
 | tail _ e ih=>exact .tail ih e
theorem Path.one {a b:Nat} (h:E a b):Path E a b:= .tail (.refl a) h
theorem Path.head {a b c:Nat} (h:E a b) (k:Path E b c):Path E a c:=(Path.one h).trans k
theorem Path.closed {S:Nat→Prop} (hS:∀ a b,S a→E a b→S b) {a b:Nat} (h:Path E a b) (ha:S a):S b:=by
 induction h with
 | refl=>exact ha
 | tail _ e ih=>exact hS _ _ ih e
structure Srch where
 mark:Nat→Nat
 low:Nat→Nat
 ring:Nat→Nat
 stack:List Nat
 next:Nat
def qj0 {α : Type} (f:Nat → α) (i:Nat) (x : α):Nat → α := fun k=>if k=i then x else f k
theorem qdc {α : Type} (f:Nat → α) (i:Nat) (x : α):qj0 f i x i=x:=by simp [qj0]
theorem qcr {α : Type} (f:Nat → α) {i k:Nat} (x : α) (h:k≠i):qj0 f i x k=f k:=by simp [qj0,h]
def qrl (E:Nat→Nat→Prop) (v r:Nat):Prop:=Path E v r∧Path E r v∧∀ w,Path E v w→Path E w v→r≤w
def wh (f:Nat→Nat):Nat:=(List.range 32).countP (fun i=>f i==0)
theorem qoh {p q:Nat→Bool} {n:Nat} (hp:p n=true) (hq:q n=false) (ho:∀ k,k≠n→p k=q k):∀ (l:List Nat),l.Nodup→n∈l→l.countP p=l.countP q+1:=by
 have hsame:∀ (l:List Nat),n∉l→l.countP p=l.countP q:=by
  intro l
  induction l with
  | nil=>intro _;rfl
  | cons a t ih =>
   intro hn;simp only [Xm,not_or] at hn;rw [Bb,Bb,ih hn.2,ho a (fun e=>hn.1 e.symm)]
 intro l
 induction l with
 | nil=>intro _ h;cases h
 | cons a t ih =>
  intro hnd hm;rw [D6] at hnd;rw [Bb,Bb];by_cases e:a=n
  ·subst e;rw [hsame t hnd.1,hp,hq];simp
  ·have hmt:n∈t:=by
    rcases Xm.1 hm with h | h
    ·exact absurd h.symm e
    ·exact h
   rw [ih hnd.2 hmt,ho a e];omega
theorem qoi {p q:Nat→Bool} (h:∀ k,p k=true→q k=true) (l:List Nat):l.countP p≤l.countP q:=by
 induction l with
 | nil=>exact Xx _
 | cons a t ih =>
  rw [Bb,Bb];cases hp:p a with
  | false=>simp;omega
  | true=>rw [h a hp];simp;omega
theorem qrm {f:Nat→Nat} {n x:Nat} (hn:n<32) (h0:f n=0) (hx:0<x):wh f=wh (qj0 f n x)+1:=by
 unfold wh;refine qoh (n:=n) (by simp [h0]) ?_ (fun k hk=>by rw [qcr _ _ hk]) _ List.nodup_range (Ai.2 hn);rw [qdc];simp;omega
theorem q4t {f f':Nat→Nat} (h:∀ v,0<f v→0<f' v):wh f'≤wh f:=by
 unfold wh;refine qoi (fun k hk=>?_) _;have hk':f' k=0:=by simpa using hk
 have:f k=0:=by
  rcases Dj (f k) with h0 | h0
  ·exact h0
  ·have:=h k h0;omega
 simp [this]
structure Inv (E:Nat→Nat→Prop) (s:Srch) (G:List Nat):Prop where
 lt:∀ v,0<s.mark v→v<32
 le:∀ v,s.mark v≤s.next
 inj:∀ u v,s.mark u=s.mark v→0<s.mark u→u=v
 cnt:s.next+wh s.mark≤32
 sorted:s.stack.Pairwise (fun a b=>s.mark a<s.mark b)
 pos:∀ v∈s.stack,0<s.mark v
 gray:∀ g∈G,g∈s.stack
 black:∀ v w,0<s.mark v→v∉G→E v w→0<s.mark w
 done:∀ v w,0<s.mark v→v∉s.stack→E v w→w∉s.stack
 ring:∀ v,0<s.mark v→v∉s.stack→qrl E v (s.ring v)
 reach:∀ x∈G,∀ y∈s.stack,s.mark x≤s.mark y→Path E x y
 back:∀ y∈s.stack,∃ x∈G,s.mark x≤s.mark y∧Path E y x
structure Ext (E:Nat→Nat→Prop) (s s':Srch) (n:Nat):Prop where
 mark_old:∀ v,0<s.mark v→s'.mark v=s.mark v
 low_old:∀ v,0<s.mark v→s'.low v=s.low v
 fresh:∀ v,s.mark v=0→0<s'.mark v→s.next<s'.mark v∧Path E n v
 next:s.next≤s'.next
structure Post (E:Nat→Nat→Prop) (s s':Srch) (n:Nat) (G:List Nat):Prop where
 inv:Inv E s' G
 ext:Ext E s s' n
 mine:0<s'.mark n
 low_le:s'.low n≤s'.mark n
 low_or:s'.low n=s'.mark n∨∃ z∈s.stack,s'.mark z=s'.low n∧Path E n z
 stack:∃ new,s'.stack=s.stack++new∧∀ y∈new,∀ z∈s.stack,E y z→s'.low n≤s'.mark z
structure LI (E:Nat→Nat→Prop) (s:Srch) (G:List Nat) (n:Nat) (t:Srch) (ds:Nat→Prop):Prop where
 was:Inv E s G
 white:s.mark n=0
 inv:Inv E t (n::G)
 ext:Ext E s t n
 nmark:t.mark n=s.next+1
 low_le:t.low n≤t.mark n
 low_or:t.low n=t.mark n∨∃ z∈s.stack,t.mark z=t.low n∧Path E n z
 stack:∃ new,t.stack=s.stack++n::new∧∀ y∈new,∀ z∈s.stack,E y z→t.low n≤t.mark z
 proc:∀ d,ds d→0<t.mark d∧(d∈s.stack→t.low n≤t.mark d)
def qs9 (s:Srch) (n:Nat):Srch:={ mark:=qj0 s.mark n (s.next+1),low:=qj0 s.low n (s.next+1),ring:=s.ring,stack:=s.stack++[n],next:=s.next+1 }
theorem LI.start {s:Srch} {G:List Nat} {n:Nat} (h:Inv E s G) (hn:n<32) (h0:s.mark n=0) (hG:∀ g∈G,Path E g n):LI E s G n (qs9 s n) (fun _=>False):=by
 have hns:n∉s.stack:=fun hm=>by have:=h.pos n hm;omega
 have hmk:∀ v,v≠n→(qs9 s n).mark v=s.mark v:=fun v hv=>qcr _ _ hv;have hmn:(qs9 s n).mark n=s.next+1:=qdc _ _ _;have hne:∀ v,0<s.mark v→v≠n:=fun v hv e=>by subst e;omega
 have hst:(qs9 s n).stack=s.stack++[n]:=rfl;refine ⟨h,h0,⟨fun v hv=>?_,fun v=>?_,fun u v huv hu=>?_,?_,?_,fun v hv=>?_,fun g hg=>?_,fun v w hv hg he=>?_,fun v w hv hs he=>?_,fun v hv hs=>?_,fun x hx y hy hxy=>?_,fun y hy=>?_⟩,⟨fun v hv=>hmk v (hne v hv),fun v hv=>qcr _ _ (hne v hv),fun v hv hv'=>?_,Nat.le_succ _⟩,hmn,?_,.inl ?_,⟨[],rfl,by simp⟩,fun d hd=>hd.elim⟩
 ·by_cases e:v=n
  ·subst e;exact hn
  ·rw [hmk v e] at hv;exact h.lt v hv
 ·show _≤s.next+1;by_cases e:v=n
  ·subst e;rw [hmn];exact Xx _
  ·rw [hmk v e];have:=h.le v;omega
 ·by_cases e1:u=n
  ·by_cases e2:v=n
   ·rw [e1,e2]
   ·subst e1;rw [hmn,hmk v e2] at huv;have:=h.le v;omega
  ·by_cases e2:v=n
   ·subst e2;rw [hmn,hmk u e1] at huv;have:=h.le u;omega
   ·rw [hmk u e1,hmk v e2] at huv;rw [hmk u e1] at hu;exact h.inj u v huv hu
 ·have:=qrm (x:=s.next+1) hn h0 Ec;have hc:=h.cnt;show s.next+1+wh (qj0 s.mark n (s.next+1))≤32;omega
 ·rw [hst,As];refine ⟨?_,List.pairwise_singleton _ _,fun a ha b hb=>?_⟩
  ·refine List.Pairwise.imp_of_mem (fun {a b} ha hb hab=>?_) h.sorted;rw [hmk a (fun e=>hns (e ▸ ha)),hmk b (fun e=>hns (e ▸ hb))];exact hab
  ·rw [Xu] at hb;subst hb;rw [hmn,hmk a (fun e=>hns (e ▸ ha))];have:=h.le a;omega
 ·rw [hst,Xr,Xu] at hv;rcases hv with hv | rfl
  ·have:=h.pos v hv;rw [hmk v (hne v this)];exact this
  ·rw [hmn];omega
 ·rw [hst,Xr,Xu];rcases Xm.1 hg with rfl | hg
  ·exact .inr rfl
  ·exact .inl (h.gray g hg)
 ·simp only [Xm,not_or] at hg;rw [hmk v hg.1] at hv;have:=h.black v w hv hg.2 he;rw [hmk w (hne w this)];exact this
 ·rw [hst,Xr,Xu,not_or] at hs;rw [hmk v hs.2] at hv;rw [hst,Xr,Xu,not_or];refine ⟨h.done v w hv hs.1 he,fun e=>?_⟩;subst e;have hvG:v∉G:=fun hg=>hs.1 (h.gray v hg);have:=h.black v w hv hvG he;omega
 ·rw [hst,Xr,Xu,not_or] at hs;rw [hmk v hs.2] at hv;exact h.ring v hv hs.1
 ·rw [hst,Xr,Xu] at hy;rcases Xm.1 hx with rfl | hx2
  ·rcases hy with hy | rfl
   ·have hp:=h.pos y hy;rw [hmn,hmk y (hne y hp)] at hxy;have:=h.le y;omega
   ·exact .refl _
  ·rcases hy with hy | rfl
   ·have hp:=h.pos y hy;have hpx:=h.pos x (h.gray x hx2);rw [hmk x (hne x hpx),hmk y (hne y hp)] at hxy;exact h.reach x hx2 y hy hxy
   ·exact hG x hx2
 ·rw [hst,Xr,Xu] at hy;rcases hy with hy | rfl
  ·obtain ⟨x,hx,hxy,hp⟩:=h.back y hy;have hpx:=h.pos x (h.gray x hx);refine ⟨x,Xj _ hx,?_,hp⟩;rw [hmk x (hne x hpx),hmk y (hne y (h.pos y hy))];exact hxy
  ·exact ⟨y,Xk,Xx _,.refl _⟩
 ·by_cases e:v=n
  ·subst e;rw [hmn];exact ⟨by omega,.refl _⟩
  ·rw [hmk v e] at hv';omega
 ·rw [hmn];show qj0 s.low n (s.next+1) n≤_;rw [qdc];exact Xx _
 ·rw [hmn];exact qdc _ _ _
theorem Inv.low {s:Srch} {G:List Nat} (h:Inv E s G) (l:Nat→Nat):Inv E { s with low:=l } G :=
 ⟨h.lt,h.le,h.inj,h.cnt,h.sorted,h.pos,h.gray,h.black,h.done,h.ring,h.reach,h.back⟩
section
variable {s t:Srch} {G:List Nat} {n:Nat} {ds:Nat→Prop}
theorem LI.old (h:LI E s G n t ds) {z:Nat} (hz:z∈s.stack):0<s.mark z∧t.mark z=s.mark z∧t.mark z<t.mark n:=by
 have h1:=h.was.pos z hz;have h2:=h.ext.mark_old z h1;have h3:=h.was.le z;refine ⟨h1,h2,?_⟩;rw [h2,h.nmark];omega
theorem LI.new (h:LI E s G n t ds) {new:List Nat} (hst:t.stack=s.stack++n::new) {y:Nat} (hy:y∈n::new):t.mark n≤t.mark y:=by
 have h1:=h.inv.sorted;rw [hst,As] at h1;rcases Xm.1 hy with rfl | hy
 ·exact Xx _
 ·exact Nat.le_of_lt ((X9.1 h1.2.1).1 y hy)
theorem LI.visit {t':Srch} {d:Nat} (h:LI E s G n t ds) (hd0:t.mark d=0) (he:E n d) (hp:Post E t t' d (n::G)) :
 LI E s G n { t' with low:=qj0 t'.low n (min (t'.low n) (t'.low d)) } (fun x=>ds x∨x=d):=by
 have hn0:0<t.mark n:=by rw [h.nmark];omega
 have hmn:t'.mark n=t.mark n:=hp.ext.mark_old n hn0;have hln:t'.low n=t.low n:=hp.ext.low_old n hn0;have hmd:=hp.ext.fresh d hd0 hp.mine;have hnn:t.mark n≤t.next:=h.inv.le n;obtain ⟨new,hst,hnew⟩:=h.stack;obtain ⟨newd,hst',hnew'⟩:=hp.stack;have hlow2:(qj0 t'.low n (min (t'.low n) (t'.low d))) n=min (t.low n) (t'.low d):=by rw [qdc,hln]
 refine ⟨h.was,h.white,hp.inv.low _,⟨fun v hv=>?_,fun v hv=>?_,fun v hv hv'=>?_,X5 h.ext.next hp.ext.next⟩,by rw [← h.nmark];exact hmn,?_,?_,⟨new++newd,?_,fun y hy z hz hyz=>?_⟩,fun x hx=>?_⟩
 ·have h1:=h.ext.mark_old v hv;rw [hp.ext.mark_old v Ec];exact h1
 ·have h1:=h.ext.mark_old v hv;have hvn:v≠n:=fun e=>by subst e;rw [h.white] at hv;omega
  show qj0 t'.low n _ v=_;rw [qcr _ _ hvn,hp.ext.low_old v Ec];exact h.ext.low_old v hv
 ·rcases Dj (t.mark v) with h0 | h0
  ·have h1:=hp.ext.fresh v h0 hv';have h2:=h.ext.next;exact ⟨by show s.next<t'.mark v;omega,Path.head he h1.2⟩
  ·have h1:=hp.ext.mark_old v h0;have h2:=h.ext.fresh v hv h0;exact ⟨by show s.next<t'.mark v;rw [h1];exact h2.1,h2.2⟩
 ·show qj0 t'.low n _ n≤t'.mark n;rw [hlow2,hmn];exact X5 (Bl _ _) h.low_le
 ·show qj0 t'.low n _ n=t'.mark n∨∃ z∈s.stack,t'.mark z=qj0 t'.low n _ n∧Path E n z;rw [hlow2,hmn];by_cases hle:t.low n≤t'.low d
  ·rw [Bt hle];rcases h.low_or with h1 | ⟨z,hz,h1,h2⟩
   ·exact .inl h1
   ·have h3:=h.old hz;exact .inr ⟨z,hz,by rw [hp.ext.mark_old z Ec];exact h1,h2⟩
  ·rw [Bq Ec];have hll:=h.low_le;rcases hp.low_or with h1 | ⟨z,hz,h1,h2⟩
   ·omega
   ·refine .inr ⟨z,?_,h1,Path.head he h2⟩;have hz':=hz;rw [hst] at hz';rcases Xr.1 hz' with h3 | h3
    ·exact h3
    ·have h4:=h.new hst h3;have h5:=hp.ext.mark_old z (h.inv.pos z hz);omega
 ·show t'.stack=_;rw [hst',hst];simp
 ·show qj0 t'.low n _ n≤t'.mark z;rw [hlow2];have h3:=h.old hz;have h4:=hp.ext.mark_old z Ec;rcases Xr.1 hy with hy | hy
  ·have:=hnew y hy z hz hyz;rw [h4];exact X5 (Bl _ _) this
  ·have:=hnew' y hy z (by rw [hst];exact Ad _ hz) hyz;exact X5 (Dy _ _) this
 ·show 0<t'.mark x∧(x∈s.stack→qj0 t'.low n _ n≤t'.mark x);rw [hlow2];rcases hx with hx | rfl
  ·have h1:=h.proc x hx;have h2:=hp.ext.mark_old x h1.1;rw [h2];exact ⟨h1.1,fun hs=>X5 (Bl _ _) (h1.2 hs)⟩
  ·exact ⟨hp.mine,fun hs=>by have:=h.old hs;omega⟩
theorem LI.on {d:Nat} (h:LI E s G n t ds) (hd:d∈t.stack) (he:E n d) :
 LI E s G n { t with low:=qj0 t.low n (min (t.low n) (t.mark d)) } (fun x=>ds x∨x=d):=by
 obtain ⟨new,hst,hnew⟩:=h.stack;have hlow2:(qj0 t.low n (min (t.low n) (t.mark d))) n=min (t.low n) (t.mark d):=qdc _ _ _;refine ⟨h.was,h.white,h.inv.low _,⟨h.ext.mark_old,fun v hv=>?_,h.ext.fresh,h.ext.next⟩,h.nmark,?_,?_,⟨new,hst,fun y hy z hz hyz=>?_⟩,fun x hx=>?_⟩
 ·have hvn:v≠n:=fun e=>by subst e;rw [h.white] at hv;omega
  show qj0 t.low n _ v=_;rw [qcr _ _ hvn];exact h.ext.low_old v hv
 ·show qj0 t.low n _ n≤t.mark n;rw [hlow2];exact X5 (Bl _ _) h.low_le
 ·show qj0 t.low n _ n=t.mark n∨∃ z∈s.stack,t.mark z=qj0 t.low n _ n∧Path E n z;rw [hlow2];by_cases hle:t.low n≤t.mark d
  ·rw [Bt hle];exact h.low_or
  ·rw [Bq Ec];have hll:=h.low_le;refine .inr ⟨d,?_,rfl,Path.one he⟩;have hd':=hd;rw [hst] at hd';rcases Xr.1 hd' with h3 | h3
   ·exact h3
   ·have h4:=h.new hst h3;omega
 ·show qj0 t.low n _ n≤t.mark z;rw [hlow2];exact X5 (Bl _ _) (hnew y hy z hz hyz)
 ·show 0<t.mark x∧(x∈s.stack→qj0 t.low n _ n≤t.mark x);rw [hlow2];rcases hx with hx | rfl
  ·have h1:=h.proc x hx;exact ⟨h1.1,fun hs=>X5 (Bl _ _) (h1.2 hs)⟩
  ·exact ⟨h.inv.pos x hd,fun _=>Dy _ _⟩
theorem LI.skip {d:Nat} (h:LI E s G n t ds) (hm:0<t.mark d) (hd:d∉t.stack):LI E s G n t (fun x=>ds x∨x=d):=by
 obtain ⟨new,hst,hnew⟩:=h.stack;refine ⟨h.was,h.white,h.inv,h.ext,h.nmark,h.low_le,h.low_or,h.stack,fun x hx=>?_⟩;rcases hx with hx | rfl
 ·exact h.proc x hx
 ·exact ⟨hm,fun hs=>absurd (by rw [hst];exact Ad _ hs) hd⟩
theorem LI.keep (h:LI E s G n t ds) (hall:∀ d,E n d→ds d) (hlow:t.low n≠t.mark n):Post E s t n G:=by
 obtain ⟨new,hst,hnew⟩:=h.stack;have hlt:t.low n<t.mark n:=Nat.lt_of_le_of_ne h.low_le hlow;obtain ⟨z,hz,hm,hp⟩:∃ z∈s.stack,t.mark z=t.low n∧Path E n z:=by
  rcases h.low_or with h1 | h1
  ·exact absurd h1 hlow
  ·exact h1
 refine ⟨⟨h.inv.lt,h.inv.le,h.inv.inj,h.inv.cnt,h.inv.sorted,h.inv.pos,fun g hg=>h.inv.gray g (Xj _ hg),fun v w hv hg hvw=>?_,h.inv.done,h.inv.ring,fun x hx=>h.inv.reach x (Xj _ hx),fun y hy=>?_⟩,h.ext,by rw [h.nmark];omega,h.low_le,h.low_or,⟨n::new,hst,fun y hy z hz hyz=>?_⟩⟩
 ·by_cases e:v=n
  ·subst e;exact (h.proc w (hall w hvw)).1
  ·exact h.inv.black v w hv (by simp only [Xm,not_or];exact ⟨e,hg⟩) hvw
 ·obtain ⟨x,hx,hxy,p⟩:=h.inv.back y hy;rcases Xm.1 hx with rfl | hx
  ·obtain ⟨x',hx',hxz,p'⟩:=h.was.back z hz;have h1:=h.old hz;have h2:=h.old (h.was.gray x' hx');exact ⟨x',hx',by omega,(p.trans hp).trans p'⟩
  ·exact ⟨x,hx,hxy,p⟩
 ·rcases Xm.1 hy with rfl | hy
  ·exact (h.proc z (hall z hyz)).2 hz
  ·exact hnew y hy z hz hyz
theorem LI.pop (h:LI E s G n t ds) (hall:∀ d,E n d→ds d) (hlow:t.low n=t.mark n) {new:List Nat} (hst:t.stack=s.stack++n::new) {r:Nat} {ring':Nat→Nat} (hr1:∀ v∈n::new,ring' v=r)
 (hr2:∀ v,v∉n::new→ring' v=t.ring v) (hmem:r∈n::new) (hmin:∀ v∈n::new,r≤v):Post E s { t with ring:=ring',stack:=s.stack } n G:=by
 obtain ⟨new2,hst2,hnew⟩:=h.stack;have e2:new2=new:=by
  rw [hst] at hst2;have:=List.append_cancel_left hst2;simp only [List.cons.injEq,true_and] at this;exact this.symm
 subst e2;have hC:∀ y∈n::new2,y∈t.stack:=fun y hy=>by rw [hst];exact Ak _ hy
 have hCn:∀ y∈n::new2,t.mark n≤t.mark y:=fun y hy=>h.new hst hy;have hS:∀ y∈s.stack,y∈t.stack:=fun y hy=>by rw [hst];exact Ad _ hy
 have hdis:∀ y∈n::new2,y∉s.stack:=fun y hy hs=>by have:=hCn y hy;have:=h.old hs;omega
 have hfrom:∀ y∈n::new2,Path E n y:=fun y hy=>h.inv.reach n Xk y (hC y hy) (hCn y hy);have hto:∀ y∈n::new2,Path E y n:=fun y hy=>by
  obtain ⟨x,hx,hxy,p⟩:=h.inv.back y (hC y hy);refine p.trans (h.inv.reach x hx n (hC n Xk) ?_);rcases Xm.1 hx with rfl | hx
  ·exact Xx _
  ·have:=h.old (h.was.gray x hx);omega
 have hout:∀ y∈n::new2,∀ w,E y w→0<t.mark w∧(w∈n::new2∨w∉t.stack):=by
  intro y hy w hyw;have hw0:0<t.mark w:=by
   rcases Xm.1 hy with rfl | hy'
   ·exact (h.proc w (hall w hyw)).1
   ·refine h.inv.black y w (h.inv.pos y (hC y hy)) ?_ hyw;simp only [Xm,not_or];refine ⟨fun e=>?_,fun hg=>hdis y hy (h.was.gray y hg)⟩;subst e;have h1:=h.inv.sorted;rw [hst,As] at h1;exact absurd ((X9.1 h1.2.1).1 y hy') (Ea _)
  refine ⟨hw0,?_⟩;by_cases hws:w∈t.stack
  ·left;have hws':=hws;rw [hst] at hws';rcases Xr.1 hws' with h3 | h3
   ·have h4:=h.old h3;have h5:t.low n≤t.mark w:=by
     rcases Xm.1 hy with rfl | hy'
     ·exact (h.proc w (hall w hyw)).2 h3
     ·exact hnew y hy' w h3 hyw
    omega
   ·exact h3
  ·exact .inr hws
 have hdone:∀ a b,(0<t.mark a∧a∉t.stack)→E a b→(0<t.mark b∧b∉t.stack):=fun a b ⟨h1,h2⟩ hab =>
  ⟨h.inv.black a b h1 (fun hg=>h2 (h.inv.gray a hg)) hab,h.inv.done a b h1 h2 hab⟩
 have hclosed:∀ a b,(0<t.mark a∧(a∈n::new2∨a∉t.stack))→E a b→(0<t.mark b∧(b∈n::new2∨b∉t.stack)):=by
  rintro a b ⟨h1,h2 | h2⟩ hab
  ·exact hout a h2 b hab
  ·have:=hdone a b ⟨h1,h2⟩ hab;exact ⟨this.1,.inr this.2⟩
 have hnot:∀ v,v∉s.stack→v∉n::new2→v∉t.stack:=fun v h1 h2 h3=>by
  rw [hst] at h3;rcases Xr.1 h3 with h3 | h3
  ·exact h1 h3
  ·exact h2 h3
 have hsorted:s.stack.Pairwise (fun a b=>t.mark a<t.mark b):=by
  have h1:=h.inv.sorted;rw [hst,As] at h1;exact h1.1
 refine ⟨⟨h.inv.lt,h.inv.le,h.inv.inj,h.inv.cnt,hsorted,fun v hv=>h.inv.pos v (hS v hv),h.was.gray,fun v w hv hg hvw=>?_,fun v w hv hs hvw=>?_,fun v hv hs=>?_,fun x hx y hy=>h.inv.reach x (Xj _ hx) y (hS y hy),fun y hy=>?_⟩,
  ⟨h.ext.mark_old,h.ext.low_old,h.ext.fresh,h.ext.next⟩,by show 0<t.mark n;rw [h.nmark];omega,h.low_le,.inl hlow,⟨[],by simp,by simp⟩⟩
 ·by_cases e:v=n
  ·subst e;exact (h.proc w (hall w hvw)).1
  ·exact h.inv.black v w hv (by simp only [Xm,not_or];exact ⟨e,hg⟩) hvw
 ·by_cases hvC:v∈n::new2
  ·rcases (hout v hvC w hvw).2 with h1 | h1
   ·exact hdis w h1
   ·exact fun h2=>h1 (hS w h2)
  ·have:=h.inv.done v w hv (hnot v hs hvC) hvw;exact fun h2=>this (hS w h2)
 ·by_cases hvC:v∈n::new2
  ·show qrl E v (ring' v);rw [hr1 v hvC];refine ⟨(hto v hvC).trans (hfrom r hmem),(hto r hmem).trans (hfrom v hvC),fun w hvw hwv=>hmin w ?_⟩;have h1:=Path.closed (S:=fun a=>0<t.mark a∧(a∈n::new2∨a∉t.stack)) hclosed hvw ⟨hv,.inl hvC⟩;rcases h1.2 with h2 | h2
   ·exact h2
   ·have h3:=Path.closed (S:=fun a=>0<t.mark a∧a∉t.stack) hdone hwv ⟨h1.1,h2⟩;exact absurd (hC v hvC) h3.2
  ·show qrl E v (ring' v);rw [hr2 v hvC];exact h.inv.ring v hv (hnot v hs hvC)
 ·obtain ⟨x,hx,hxy,p⟩:=h.was.back y hy;have h1:=h.old hy;have h2:=h.old (h.was.gray x hx);exact ⟨x,hx,by show t.mark x≤t.mark y;omega,p⟩
end
theorem Inv.empty {s:Srch} (h1:∀ v,s.mark v=0) (h2:s.stack=[]) (h3:s.next=0):Inv E s []:=by
 refine ⟨fun v hv=>?_,fun v=>?_,fun u v _ hu=>?_,?_,(by rw [h2];exact .nil),fun v hv=>?_,fun g hg=>(by cases hg),fun v w hv=>?_,fun v w hv=>?_,fun v hv=>?_,fun x hx=>(by cases hx),fun y hy=>?_⟩
 ·rw [h1] at hv;omega
 ·rw [h1];omega
 ·rw [h1] at hu;omega
 ·rw [h3];have:wh s.mark≤32:=by
   have:=List.countP_le_length (p:=fun i=>s.mark i==0) (l:=List.range 32);rw [List.length_range] at this;exact this
  omega
 ·rw [h2] at hv;cases hv
 ·rw [h1] at hv;omega
 ·rw [h1] at hv;omega
 ·rw [h1] at hv;omega
 ·rw [h2] at hy;cases hy
theorem Post.final {s s':Srch} {n:Nat} (h:Post E s s' n []) (h1:∀ v,s.mark v=0):(∀ v,0<s'.mark v↔Path E n v)∧∀ v,Path E n v→qrl E v (s'.ring v):=by
 have hst:∀ y,y∉s'.stack:=fun y hy=>by obtain ⟨x,hx,_⟩:=h.inv.back y hy;cases hx
 have hp:∀ v,Path E n v→0<s'.mark v:=fun v hv=>Path.closed (S:=fun a=>0<s'.mark a) (fun a b ha hab=>h.inv.black a b ha (by simp) hab) hv h.mine;exact ⟨fun v=>⟨fun hv=>(h.ext.fresh v (h1 v) hv).2,hp v⟩,fun v hv=>h.inv.ring v (hp v hv) (hst v)⟩
end
abbrev Bw := @List.nodup_append
theorem qiv:∀ (n:Nat) (l:List Nat),l.Nodup→(∀ x∈l,x<n)→l.length≤n
 | 0,l,_,h=>by
  cases l with
  | nil=>simp
  | cons a t=>exact absurd (h a List.mem_cons_self) (Nat.not_lt_zero _)
 | n+1,l,hn,h=>by
  have h1:=qiv n (l.filter (· != n)) (hn.filter _) (fun x hx=>by
   rw [List.mem_filter] at hx
   have:=h x hx.1
   have h2:x≠n:=by simpa using hx.2
   omega)
  have h2:l.length≤(l.filter (· != n)).length+1:=by
   clear h1 h
   induction l with
   | nil=>simp
   | cons a t ih =>
    rw [D6] at hn;have ih:=ih hn.2;by_cases e:a=n
    ·subst e;have:t.filter (· != a)=t:=List.filter_eq_self.2 fun x hx=>by simp;rintro rfl;exact hn.1 hx
     simp [this]
    ·rw [List.filter_cons_of_pos (by simpa using e)];simp only [Xy];omega
  omega
theorem qz8 {p q:Nat→Bool} (h:∀ k,q k=true→p k=true) {x:Nat} (hp:p x=true) (hq:q x=false):∀ (l:List Nat),x∈l→l.countP q<l.countP p:=by
 intro l
 induction l with
 | nil=>intro h;cases h
 | cons a t ih =>
  intro hm;rw [Bb,Bb];have hle:=qoi h t;rcases Xm.1 hm with rfl | hm
  ·rw [hp,hq];simp;omega
  ·have:=ih hm;cases hqa:q a with
   | false=>simp;omega
   | true=>rw [h a hqa];simp;omega
def qoj (P:Nat→Nat→Bool) (n:Nat) (out:List Nat) (m:Nat):Bool:=P n m&&(!out.contains m&&(List.range 32).all fun d => !P m d||(P d m||out.contains d))
def qhz (P:Nat→Nat→Bool) (n:Nat) (out:List Nat):Option Nat:=(List.range 32).find? (qoj P n out)
def qxs (P:Nat→Nat→Bool) (c:Nat):List Nat:=(List.range 32).filter fun m=>P c m&&P m c
def qmk (P:Nat→Nat→Bool) (n:Nat):Nat→List Nat→List Nat
 | 0,out=>out
 | k+1,out=>match qhz P n out with
  | none=>out
  | some c=>qmk P n k (out++qxs P c)
def qz9 (P:Nat→Nat→Bool) (n:Nat):List Nat:=qmk P n 32 []
structure Pre (P:Nat→Nat→Bool):Prop where
 refl:∀ a,a<32→P a a=true
 trans:∀ a b c,P a b=true→P b c=true→P a c=true
 lt:∀ a b,a<32→P a b=true→b<32
structure OKO (P:Nat→Nat→Bool) (n:Nat) (out:List Nat):Prop where
 nodup:out.Nodup
 lt:∀ m∈out,m<32
 sub:∀ m∈out,P n m=true
 dc:∀ m∈out,∀ d,P m d=true→d∈out
section
variable {P:Nat→Nat→Bool} {n:Nat} {out:List Nat}
theorem candO_iff {m:Nat}:qoj P n out m=true↔P n m=true∧m∉out∧∀ d,d<32→P m d=true→P d m=true∨d∈out:=by
 simp only [qoj,Xn,B3,Av,Ai,B1,List.contains_eq_mem,decide_eq_true_eq,decide_eq_false_iff_not];constructor
 ·rintro ⟨h1,h2,h3⟩;refine ⟨h1,h2,fun d hd hm=>?_⟩;rcases h3 d hd with h | h
  ·rw [hm] at h;cases h
  ·exact h
 ·rintro ⟨h1,h2,h3⟩;refine ⟨h1,h2,fun d hd=>?_⟩;cases hm:P m d with
  | false=>exact .inl rfl
  | true=>exact .inr (h3 d hd hm)
theorem qe8 {c:Nat} (h:qhz P n out=some c):c<32∧qoj P n out c=true∧∀ m,m<c→qoj P n out m=false:=by
 unfold qhz at h;have h1:=List.find?_some h;have h2:=List.mem_of_find?_eq_some h;refine ⟨Ai.1 h2,h1,fun m hm=>?_⟩;rw [List.find?_range_eq_some] at h;have:=h.2.2 m hm;simpa using this
theorem nextO_none:qhz P n out=none↔∀ m,m<32→qoj P n out m=false:=by
 unfold qhz;rw [List.find?_eq_none];simp
theorem mem_ringO {c m:Nat}:m∈qxs P c↔m<32∧P c m=true∧P m c=true:=by
 simp [qxs,List.mem_filter,Ai]
theorem OKO.nil:OKO P n []:=⟨List.nodup_nil,by simp,by simp,by simp⟩
theorem OKO.step (hP:Pre P) (hn:n<32) (h:OKO P n out) {c:Nat} (hc:qhz P n out=some c):OKO P n (out++qxs P c):=by
 obtain ⟨hc32,hcand,_⟩:=qe8 hc;rw [candO_iff] at hcand;obtain ⟨h1,h2,h3⟩:=hcand;refine ⟨?_,fun m hm=>?_,fun m hm=>?_,fun m hm d hd=>?_⟩
 ·rw [Bw];refine ⟨h.nodup,List.nodup_range.filter _,fun a ha b hb=>?_⟩;rintro rfl;exact h2 (h.dc a ha c (mem_ringO.1 hb).2.2)
 ·rcases Xr.1 hm with hm | hm
  ·exact h.lt m hm
  ·exact (mem_ringO.1 hm).1
 ·rcases Xr.1 hm with hm | hm
  ·exact h.sub m hm
  ·exact hP.trans _ _ _ h1 (mem_ringO.1 hm).2.1
 ·rcases Xr.1 hm with hm | hm
  ·exact Ad _ (h.dc m hm d hd)
  ·obtain ⟨hm32,hcm,hmc⟩:=mem_ringO.1 hm;have hcd:=hP.trans _ _ _ hcm hd;have hd32:=hP.lt m d hm32 hd;rcases h3 d hd32 hcd with h4 | h4
   ·exact Ak _ (mem_ringO.2 ⟨hd32,hcd,h4⟩)
   ·exact Ad _ h4
theorem qqi (hP:Pre P) {c:Nat} (hc:c<32):c∈qxs P c:=mem_ringO.2 ⟨hc,hP.refl c hc,hP.refl c hc⟩
theorem OKO.len (h:OKO P n out):out.length≤32:=qiv 32 out h.nodup h.lt
theorem OKO.full (h:OKO P n out) (hl:32≤out.length):qhz P n out=none:=by
 rw [nextO_none];intro m hm;cases hc:qoj P n out m with
 | false=>rfl
 | true =>
  rw [candO_iff] at hc;have:=qiv 32 (m::out) (D6.2 ⟨hc.2.1,h.nodup⟩) (fun x hx=>by
   rcases Xm.1 hx with rfl | hx
   ·exact hm
   ·exact h.lt x hx)
  simp only [Xy] at this;omega
theorem OKO.more (hP:Pre P) (hn:n<32) (h:OKO P n out):∀ (k m:Nat),(List.range 32).countP (P m)≤k→P n m=true→m∉out→qhz P n out≠none
 | k,m,hk,hm,hmo=>by
  intro h0;have hm32:=hP.lt n m hn hm;have hno:=nextO_none.1 h0 m hm32;by_cases hall:∀ d,d<32→P m d=true→P d m=true∨d∈out
  ·rw [candO_iff.2 ⟨hm,hmo,hall⟩] at hno;cases hno
  ·have hex:∃ d,d<32∧P m d=true∧P d m=false∧d∉out:=by
    refine Classical.byContradiction fun hne=>hall fun d hd hmd=>?_;by_cases h1:d∈out
    ·exact .inr h1
    ·cases h2:P d m with
     | true=>exact .inl rfl
     | false=>exact absurd ⟨d,hd,hmd,h2,h1⟩ hne
   obtain ⟨d,hd,hmd,hdm,hdo⟩:=hex;have hlt:(List.range 32).countP (P d)<(List.range 32).countP (P m) :=
    qz8 (p:=P m) (q:=P d) (fun x hx=>hP.trans _ _ x hmd hx) (hP.refl m hm32) hdm _ (Ai.2 hm32)
   cases k with
   | zero=>omega
   | succ k=>exact OKO.more hP hn h k d Ec (hP.trans _ _ _ hm hmd) hdo h0
theorem qqj (hP:Pre P) (hn:n<32):∀ (k:Nat) (out:List Nat),OKO P n out→32≤k+out.length→OKO P n (qmk P n k out)∧qhz P n (qmk P n k out)=none
 | 0,out,h,hk=>⟨h,h.full Ec⟩
 | k+1,out,h,hk=>by
  unfold qmk;cases hc:qhz P n out with
  | none=>exact ⟨h,hc⟩
  | some c =>
   refine qqj hP hn k _ (h.step hP hn hc) ?_;have:=List.length_pos_of_mem (qqi hP (qe8 hc).1);rw [Xp];omega
theorem qta (hP:Pre P) (hn:n<32):OKO P n (qz9 P n):=(qqj hP hn 32 [] OKO.nil (by simp)).1
end
abbrev Au := @Bool.not_false
section
variable {α : Type} {n:Nat} {v:Vector α n} {k:Nat}
theorem qrn (hk:k<n):qa3 v (k:Int)=some v[k]:=by
 unfold qa3;rw [if_pos (Bj k)];simp [hk]
theorem qgh {x : α} (hk:k<n):qer v (k:Int) x=some (v.set k x):=by
 unfold qer;rw [if_pos ⟨Bj k,by omega⟩];congr 1;refine Vector.ext fun j hj=>?_;simp [Bs,Vector.getElem_set]
end
def bat (v:Vector Bool 32) (k:Nat):Bool:=v[k]?.getD false
theorem qwd {v:Vector Bool 32} {k:Nat} (hk:k<32):v[k]=bat v k:=by simp [bat,hk]
theorem qu7 {v:Vector Bool 32} {k:Nat} (hk:k<32):qa3 v (k:Int)=some (bat v k):=by rw [qrn hk,qwd hk]
theorem qf0 {v:Vector Bool 32} {k j:Nat} {x:Bool} (hk:k<32):bat (v.set k x) j=if k=j then x else bat v j:=by
 unfold bat;by_cases hj:j<32
 ·simp only [Vector.getElem?_set];by_cases e:k=j
  ·subst e;simp
  ·simp [e]
 ·have hkj:k≠j:=by omega
  simp [hj,hkj]
theorem q0a {v u:Vector Bool 32} (h:∀ k,k<32→bat v k=bat u k):v=u:=by
 refine Vector.ext fun k hk=>?_;rw [qwd hk,qwd hk];exact h k hk
theorem qnf (k:Nat):bat (Zr.zd:Vector Bool 32) k=false:=by
 show bat (Vector.replicate 32 false) k=false;unfold bat;by_cases hk:k<32<;>simp [hk]
def cz (v:Vector Bool 32):Nat:=(List.range 32).countP fun k => !bat v k
theorem q3f {v:Vector Bool 32} {k:Nat} (hk:k<32) (h:bat v k=false):cz v=cz (v.set k true)+1:=by
 unfold cz;refine qoh (n:=k) (by simp [h]) (by rw [qf0 hk,if_pos rfl];rfl) (fun j hj=>?_) _ List.nodup_range (Ai.2 hk);rw [qf0 hk,if_neg (fun e=>hj e.symm)]
theorem q9i (v:Vector Bool 32):cz v≤32:=by
 unfold cz;have:=List.countP_le_length (p:=fun k => !bat v k) (l:=List.range 32);rw [List.length_range] at this;exact this
theorem q4u {v u:Vector Bool 32} (h:∀ k,bat v k=true→bat u k=true):cz u≤cz v:=by
 unfold cz;refine qoi (fun k hk=>?_) _;cases hv:bat v k with
 | false=>rfl
 | true=>rw [h k hv] at hk;cases hk
def qa9 (g:GGraph) (a:Nat):List Int:=if h:a<32 then g.deps[a] else []
theorem q74 {g:GGraph} {a:Nat} (h:a<32):qa3 g.deps (a:Int)=some (qa9 g a):=by rw [qrn h];simp [qa9,h]
def ql0 (g:GGraph) (a b:Nat):Prop:=a<32∧bat g.known a=true∧(b:Int)∈qa9 g a∧b<32
def qm3 (g:GGraph) (N:Nat):Prop:=∀ a,(qa9 g a).length<N∧(qa9 g a).length≤17592186043904
theorem qro {g:GGraph} {a b:Nat} (h:Path (ql0 g) a b) (ha:a<32):b<32:=by
 cases h with
 | refl=>exact ha
 | tail _ e=>exact e.2.2.2
theorem qok {l:List Int} (h:l.length≤100):(l.length+1)*Rep.bytes Int≤140737488351232:=by
 have:Rep.bytes Int=8:=rfl;rw [this];omega
theorem wrs (k:Nat) (h:k≤17592186043904):IntKind.wrap .i64 ((k:Int)+1)=((k+1:Nat):Int):=by rw [qc6 Ec Ec];omega
theorem qgx (x:Int):(∃ b:Nat,b<32∧x=b)∨¬ (0≤x∧x<32):=by
 by_cases h:0≤x∧x<32
 ·exact .inl ⟨x.toNat,by omega,by omega⟩
 ·exact .inr h
theorem qwe {α : Type} {l:List α} {k:Nat} (hk:k<l.length):l.drop k=l[k]::l.drop (k+1):=X3 hk
structure Fed (ds:List Int) (d:Vector Bool 32) (l:List Int) (d':Vector Bool 32) (l':List Int):Prop where
 keep:∀ k,bat d k=true→bat d' k=true
 all:∀ b:Nat,b<32→(b:Int)∈ds→bat d' b=true
 only:∀ k,bat d' k=true→bat d k=true∨((k:Int)∈ds∧(k:Int)∈l')
 old:∀ x,x∈l→x∈l'
 new:∀ x,x∈l'→x∈l∨∃ b:Nat,b<32∧x=b∧(b:Int)∈ds∧bat d' b=true
 cnt:l'.length+cz d'=l.length+cz d
theorem Fed.refl {d:Vector Bool 32} {l:List Int}:Fed [] d l d l:=⟨fun _ h=>h,fun _ _ h=>by simp at h,fun _ h => .inl h,fun _ h=>h,fun _ h => .inl h,rfl⟩
theorem Fed.skip {x:Int} {ds:List Int} {d d':Vector Bool 32} {l l':List Int} (hx:∀ b:Nat,b<32→x=b→bat d b=true) (h:Fed ds d l d' l'):Fed (x::ds) d l d' l':=by
 refine ⟨h.keep,fun b hb hm=>?_,fun k hk=>?_,h.old,fun y hy=>?_,h.cnt⟩
 ·rcases Xm.1 hm with e | hm
  ·exact h.keep b (hx b hb e.symm)
  ·exact h.all b hb hm
 ·rcases h.only k hk with h1 | h1
  ·exact .inl h1
  ·exact .inr ⟨Xj _ h1.1,h1.2⟩
 ·rcases h.new y hy with h1 | ⟨b,h1,h2,h3,h4⟩
  ·exact .inl h1
  ·exact .inr ⟨b,h1,h2,Xj _ h3,h4⟩
theorem Fed.push {a:Nat} {ds:List Int} {d d':Vector Bool 32} {l l':List Int} (ha:a<32) (hd:bat d a=false) (h:Fed ds (d.set a true) (l++[(a:Int)]) d' l'):Fed ((a:Int)::ds) d l d' l':=by
 have hset:bat (d.set a true) a=true:=by rw [qf0 ha,if_pos rfl]
 refine ⟨fun k hk=>h.keep k (by rw [qf0 ha];split<;>simp [hk]),fun b hb hm=>?_,fun k hk=>?_,fun y hy=>h.old y (Ad _ hy),fun y hy=>?_,?_⟩
 ·rcases Xm.1 hm with e | hm
  ·have:b=a:=by omega
   subst this;exact h.keep b hset
  ·exact h.all b hb hm
 ·rcases h.only k hk with h1 | h1
  ·rw [qf0 ha] at h1;by_cases e:a=k
   ·subst e;exact .inr ⟨Xk,h.old _ (by simp)⟩
   ·rw [if_neg e] at h1;exact .inl h1
  ·exact .inr ⟨Xj _ h1.1,h1.2⟩
 ·rcases h.new y hy with h1 | ⟨b,h1,h2,h3,h4⟩
  ·rcases Xr.1 h1 with h1 | h1
   ·exact .inl h1
   ·rw [Xu] at h1;exact .inr ⟨a,ha,h1,Xk,h.keep a hset⟩
  ·exact .inr ⟨b,h1,h2,Xj _ h3,h4⟩
 ·have h1:=h.cnt;have h2:=q3f ha hd;rw [Xp] at h1;simp only [Xy,Bk] at h1;omega
theorem qol {rec:Vector Bool 32→List Int→Option (Vector Bool 32)} {ds:List Int} (hds:ds.length≤17592186043904):∀ (n m k:Nat) (d:Vector Bool 32) (l:List Int),ds.length=k+m→m<n→l.length+cz d≤100 →
 ∃ d' l',qdf rec ds n d l k=rec d' l'∧Fed (ds.drop k) d l d' l'
 | 0,m,k,d,l,_,h,_=>absurd h Ec
 | n+1,0,k,d,l,hk,_,_=>⟨d,l,by rw [qdf,qad (qae Ec)],by rw [List.drop_of_length_le Ec];exact Fed.refl⟩
 | n+1,m+1,k,d,l,hk,hn,hl=>by
  have hlt:k<ds.length:=by omega
  have ih:=fun d l h=>qol (rec:=rec) hds n m (k+1) d l Ec Ec h;rw [qdf,qag (qaf Ec),qa5,Xl hlt,qaa,qwe hlt];simp only [qjf,qk0,wrs k Ec];generalize ds[k]=x;rcases qgx x with ⟨b,hb,rfl⟩ | hx
  ·rw [qag (qaf Ec),qag (qaf Ec),qay Ec Ec,qaa,qu7 hb,qaa];cases hd:bat d b with
   | true =>
    obtain ⟨d',l',h1,h2⟩:=ih d l hl;exact ⟨d',l',by rw [← h1];rfl,h2.skip fun c _ e=>(show c=b by omega) ▸ hd⟩
   | false =>
    have hc:=q3f hb hd;obtain ⟨d',l',h1,h2⟩:=ih (d.set b true) (l++[(b:Int)]) (by simp;omega);refine ⟨d',l',?_,h2.push hb hd⟩;simp only [Au,cond_true,qaa,qgh hb,qbs (a:=l) (b:=[(b:Int)]) (qok (show l.length≤100 by omega))];exact h1
  ·obtain ⟨d',l',h1,h2⟩:=ih d l hl;refine ⟨d',l',?_,h2.skip fun c hc e=>absurd (show 0≤x∧x<32 by omega) hx⟩;by_cases h0:x≥0
   ·rw [qag (qaf h0),qad (qae Ec)];exact h1
   ·rw [qad (qae h0)];exact h1
structure Going (g:GGraph) (s:Nat) (d:Vector Bool 32) (l:List Int):Prop where
 first:bat d s=true
 path:∀ k,bat d k=true→Path (ql0 g) s k
 work:∀ x∈l,∃ b:Nat,b<32∧x=b∧bat d b=true
 closed:∀ a b,bat d a=true→(a:Int)∉l→ql0 g a b→bat d b=true
theorem Going.fin {g:GGraph} {s:Nat} {d:Vector Bool 32} (h:Going g s d []) (k:Nat):bat d k=true↔Path (ql0 g) s k :=
 ⟨h.path k,fun hp=>Path.closed (S:=fun a=>bat d a=true) (fun a b ha he=>h.closed a b ha (by simp) he) hp h.first⟩
open Classical in
noncomputable def qtb (g:GGraph) (s:Nat):Vector Bool 32:=Vector.ofFn fun k=>decide (Path (ql0 g) s k.val)
theorem qqk {g:GGraph} {s k:Nat} (hk:k<32):bat (qtb g s) k=true↔Path (ql0 g) s k:=by
 unfold bat qtb;simp [hk]
theorem q0b {g:GGraph} {s:Nat} {d:Vector Bool 32} (h:∀ k,bat d k=true↔Path (ql0 g) s k):d=qtb g s:=by
 refine q0a fun k hk=>?_;rw [Ar,h,qqk hk]
theorem q2g {l:List Int} (h:0<l.length):qr8 l none (some ((l.length:Int)-1))=some l.dropLast:=by
 unfold qr8 qe0;simp only [A8,X1];rw [if_pos Ec];simp only [Xw,Option.some.injEq];rw [List.dropLast_eq_take,show ((0:Int)).toNat=0 from rfl,Bi];congr 1;omega
theorem qkp {fu N:Nat} {g:GGraph} (hg:qm3 g N) (hf:N≤fu) {s:Nat}:∀ (n:Nat) (d:Vector Bool 32) (l:List Int),Going g s d l→l.length+cz d<n→l.length+cz d≤100→qdg fu g n d l=some (qtb g s)
 | 0,d,l,_,h,_=>absurd h Ec
 | n+1,d,l,hG,hn,hl=>by
  rw [qdg];by_cases h0:l.length=0
  ·have:l=[]:=List.length_eq_zero_iff.1 h0;subst this;rw [qad (qae (by simp)),qaa,q0b hG.fin]
  ·rw [qag (qaf Ec),qc6 Ec Ec,show ((l.length:Int)-1)=((l.length-1:Nat):Int) from by omega,qa5,List.getElem?_eq_getElem Ec,qaa,
    show (((l.length-1:Nat):Int))=(l.length:Int)-1 from by omega,q2g Ec,qaa]
   have hlast:l=l.dropLast++[l[l.length-1]]:=by
    have h1:=List.dropLast_concat_getLast (l:=l) (by rintro rfl;simp at h0);rw [List.getLast_eq_getElem] at h1;exact h1.symm
   obtain ⟨m,hm,hx,hdm⟩:=hG.work l[l.length-1] (A1 _);rw [hx] at hlast ⊢;generalize hl2:l.dropLast=l2 at hlast ⊢;have hlen:l.length=l2.length+1:=by rw [hlast];simp
   have hmem:∀ x,x∈l→x∈l2∨x=m:=fun x hx=>by
    rw [hlast] at hx;rcases Xr.1 hx with h | h
    ·exact .inl h
    ·exact .inr (by simpa using h)
   have hsub:∀ x,x∈l2→x∈l:=fun x hx=>by rw [hlast];exact Ad _ hx
   rw [qay Ec Ec,qaa,qu7 hm,qaa];cases hk:bat g.known m with
   | false =>
    rw [qag (by rfl)];refine qkp hg hf n d l2 ⟨hG.first,hG.path,fun x hx=>hG.work x (hsub x hx),fun a b ha hno he=>?_⟩ Ec Ec
    by_cases e:a=m
    ·subst e;rw [he.2.1] at hk;cases hk
    ·refine hG.closed a b ha (fun hal=>?_) he;rcases hmem _ hal with h1 | h1
     ·exact hno h1
     ·omega
   | true =>
    rw [qad (by rfl),qaa,q74 hm,qaa];obtain ⟨d',l',h1,h2⟩:=qol (rec:=qdg fu g n) (hg m).2 fu (qa9 g m).length 0 d l2 Ec (by have:=(hg m).1;omega) Ec;have h1:qdf (qdg fu g n) (qa9 g m) fu d l2 0=qdg fu g n d' l':=h1;rw [h1];rw [Bi] at h2;have hc:=h2.cnt;refine qkp hg hf n d' l' ⟨h2.keep _ hG.first,fun k hk'=>?_,fun x hx=>?_,fun a b ha hno he=>?_⟩ Ec Ec
    ·rcases h2.only k hk' with h3 | ⟨h3,h4⟩
     ·exact hG.path k h3
     ·rcases h2.new k h4 with h5 | ⟨b,hb,e,_,_⟩
      ·obtain ⟨b,hb,e,hd⟩:=hG.work _ (hsub _ h5);have:k=b:=by omega
       subst this;exact hG.path k hd
      ·have:k=b:=by omega
       subst this;exact .tail (hG.path m hdm) ⟨hm,hk,h3,hb⟩
    ·rcases h2.new x hx with h3 | ⟨b,hb,e,_,hd⟩
     ·obtain ⟨b,hb,e,hd⟩:=hG.work x (hsub x h3);exact ⟨b,hb,e,h2.keep b hd⟩
     ·exact ⟨b,hb,e,hd⟩
    ·by_cases e:a=m
     ·subst e;exact h2.all b he.2.2.2 he.2.2.1
     ·rcases h2.only a ha with h3 | ⟨_,h3⟩
      ·refine h2.keep b (hG.closed a b h3 (fun hal=>?_) he);rcases hmem _ hal with h4 | h4
       ·exact hno (h2.old _ h4)
       ·omega
      ·exact absurd h3 hno
noncomputable def qom (g:GGraph) (x:Int):Vector Bool 32:=if 0≤x∧x<32 then qtb g x.toNat else Zr.zd
theorem qu8 (g:GGraph) {s:Nat} (hs:s<32):Going g s ((Zr.zd:Vector Bool 32).set s true) [(s:Int)]:=by
 have h1:∀ k,bat ((Zr.zd:Vector Bool 32).set s true) k=true↔s=k:=fun k=>by
  rw [qf0 hs,qnf];by_cases e:s=k<;>simp [e]
 refine ⟨(h1 s).2 rfl,fun k hk=>?_,fun x hx=>?_,fun a b ha hno he=>?_⟩
 ·rw [(h1 k).1 hk];exact .refl _
 ·exact ⟨s,hs,by simpa using hx,(h1 s).2 rfl⟩
 ·have:=(h1 a).1 ha;subst this;exact absurd (by simp) hno
theorem q0c {fu N:Nat} {g:GGraph} (hg:qm3 g N) (hf:N+40≤fu) (x:Int):qst fu g x=some (qom g x):=by
 unfold qst qom;rcases qgx x with ⟨s,hs,rfl⟩ | hx
 ·rw [qad (qae Ec),qjg,qad (qae Ec),if_pos Ec,qnb,qay Ec Ec,qaa,qu7 hs,qaa,qgh hs,qaa,qaa];have hc:=q9i ((Zr.zd:Vector Bool 32).set s true);exact qkp hg Ec fu _ _ (qu8 g hs) (by simp;omega) (by simp;omega)
 ·rw [if_neg hx];by_cases h0:x<0
  ·rw [qag (qaf h0)];rfl
  ·rw [qad (qae h0),qjg,qag (qaf Ec)];rfl
structure Grown (ds:List Int) (d:Vector Bool 32) (c:Bool) (d':Vector Bool 32) (c':Bool):Prop where
 keep:∀ k,bat d k=true→bat d' k=true
 all:∀ b:Nat,b<32→(b:Int)∈ds→bat d' b=true
 only:∀ k,bat d' k=true→bat d k=true∨((k:Int)∈ds∧k<32)
 same:c'=false→c=false∧d'=d
 less:c'=true→c=true∨cz d'<cz d
theorem Grown.cz {ds:List Int} {d d':Vector Bool 32} {c c':Bool} (h:Grown ds d c d' c'):cz d'≤cz d:=q4u h.keep
def qng (g:GGraph) (d:Vector Bool 32) (k:Nat):Prop:=∀ j,k≤j→j<32→bat d j=true→bat g.known j=true
open Classical in
noncomputable def qhx (g:GGraph) (x:Int):Bool:=decide ((0≤x∧x<32)∧∀ j,j<32→bat (qom g x) j=true→bat g.known j=true)
theorem qon {g:GGraph} {d:Vector Bool 32}:∀ (n m k:Nat),k+m=32→m<n→∃ b,qdx g d n k=some b∧(b=true↔qng g d k)
 | 0,m,k,_,h=>absurd h Ec
 | n+1,0,k,hk,_=>⟨true,by rw [qdx,qad (qae Ec)],by simp only [true_iff];intro j h1 h2;omega⟩
 | n+1,m+1,k,hk,hn=>by
  have hk32:k<32:=by omega
  obtain ⟨b,h1,h2⟩:=qon (g:=g) (d:=d) n m (k+1) Ec Ec;rw [qdx,qag (qaf Ec),qu7 hk32,qaa];simp only [qk1,qnc,wrs k Ec];have step:(bat d k=true→bat g.known k=true)→(b=true↔qng g d k):=fun hs=>by
   rw [h2];constructor
   ·intro h j hj;by_cases e:j=k
    ·subst e;intro _;exact hs
    ·exact h j Ec
   ·intro h j hj;exact h j Ec
  cases hd:bat d k with
  | false=>exact ⟨b,h1,step fun h=>by rw [hd] at h;cases h⟩
  | true =>
   rw [qag rfl,qay Ec Ec,qaa,qu7 hk32,qaa];cases hkn:bat g.known k with
   | true=>exact ⟨b,h1,step fun _=>hkn⟩
   | false =>
    refine ⟨false,rfl,?_⟩;simp only [A0,false_iff];intro h;have:=h k (Xx _) hk32 hd;rw [hkn] at this;cases this
theorem readyZ_iff {g:GGraph} {x:Int}:qhx g x=true↔(0≤x∧x<32)∧qng g (qom g x) 0:=by
 unfold qhx qng;simp
theorem q0d {fu N:Nat} {g:GGraph} (hg:qm3 g N) (hf:N+40≤fu) (x:Int):qsu fu g x=some (qhx g x):=by
 unfold qsu;rcases qgx x with ⟨s,hs,rfl⟩ | hx
 ·rw [qad (qae Ec),qjh,qad (qae Ec),qnd,q0c hg hf,qaa];obtain ⟨b,h1,h2⟩:=qon (g:=g) (d:=qom g s) fu 32 0 Ec Ec;have h1:qdx g (qom g s) fu 0=some b:=h1;rw [h1];congr 1;rw [Ar,h2,readyZ_iff];simp;omega
 ·have:qhx g x=false:=by
   cases h:qhx g x with
   | false=>rfl
   | true=>exact absurd (readyZ_iff.1 h).1 hx
  rw [this];by_cases h0:x<0
  ·rw [qag (qaf h0)];rfl
  ·rw [qad (qae h0),qjh,qag (qaf Ec)]
abbrev B4 := @List.drop_of_length_le
abbrev D7 := @Int.min_eq_left
abbrev Dz := @Int.min_eq_right
def iat (v:Vector Int 32) (k:Nat):Int:=v[k]?.getD 0
theorem qxt {v:Vector Int 32} {k:Nat} (hk:k<32):qa3 v (k:Int)=some (iat v k):=by rw [qrn hk];simp [iat,hk]
theorem qoo {v:Vector Int 32} {k j:Nat} {x:Int} (hk:k<32):iat (v.set k x) j=if k=j then x else iat v j:=by
 unfold iat;by_cases hj:j<32
 ·simp only [Vector.getElem?_set];by_cases e:k=j
  ·subst e;simp
  ·simp [e]
 ·have hkj:k≠j:=by omega
  simp [hj,hkj]
theorem qrp (k:Nat):iat (Zr.zd:Vector Int 32) k=0:=by
 show iat (Vector.replicate 32 0) k=0;unfold iat;by_cases hk:k<32<;>simp [hk]
def DE (g:GGraph) (a b:Nat):Prop:=a<32∧(b:Int)∈qa9 g a∧b<32
structure Abs (x:GSearch) (l:List Int) (t:Srch):Prop where
 mark:∀ k,k<32→iat x.mark_ k=(t.mark k:Int)
 low:∀ k,k<32→iat x.low k=(t.low k:Int)
 ring:∀ k,k<32→iat x.ring k=(t.ring k:Int)
 on:∀ k,k<32→bat x.on_ k=decide (k∈t.stack)
 stack:l=t.stack.map fun k=>((k:Nat):Int)
 next:x.next=(t.next:Int)
theorem LI.sub {E:Nat→Nat→Prop} {s t:Srch} {G:List Nat} {n:Nat} {ds ds':Nat→Prop} (h:LI E s G n t ds) (hs:∀ d,ds' d→ds d):LI E s G n t ds' :=
 ⟨h.was,h.white,h.inv,h.ext,h.nmark,h.low_le,h.low_or,h.stack,fun d hd=>h.proc d (hs d hd)⟩
def VOk (g:GGraph) (fu n:Nat):Prop:=∀ (x:GSearch) (l:List Int) (t:Srch) (G:List Nat) (m:Nat),x.g=g→Abs x l t→Inv (DE g) t G→t.mark m=0→m<32→(∀ a∈G,Path (DE g) a m)→wh t.mark≤n →
 ∃ x' l' t',qhd fu n x l m=some (x',l')∧x'.g=g∧Abs x' l' t'∧Post (DE g) t t' m G
theorem qtc {E:Nat→Nat→Prop} {s:Srch} {G:List Nat} (h:Inv E s G):s.stack.length≤32:=by
 refine qiv 32 s.stack ?_ fun x hx=>h.lt x (h.pos x hx);rw [Dl];refine h.sorted.imp fun {a b} hab=>?_;rintro rfl;omega
theorem qhr {a b:Nat} (h:(a:Int)=b):a=b:=by omega
theorem qop {l:List Int} {y174:Int} {r:Nat} (C:List Nat) (hC:∀ c∈C,c<32) (hlen:C.length≤32):∀ (n m k:Nat) (x:GSearch),C.length=k+m→m<n →
 ∃ x':GSearch,qdy l y174 r (C.map fun c=>((c:Nat):Int)) n x k=((qr8 l none (some y174)).bind fun l2=>some ({ x' with stack:=Hole.mk },l2))∧x'.g=x.g∧x'.mark_=x.mark_∧x'.low=x.low∧x'.next=x.next ∧
  (∀ j,iat x'.ring j=if j∈C.drop k then (r:Int) else iat x.ring j)∧(∀ j,bat x'.on_ j=if j∈C.drop k then false else bat x.on_ j)
 | 0,m,k,x,_,h=>absurd h Ec
 | n+1,0,k,x,hk,_=>by
  refine ⟨x,?_,rfl,rfl,rfl,rfl,fun j=>?_,fun j=>?_⟩
  ·rw [qdy,qad (qae (by simp;omega))];rfl
  ·rw [B4 Ec];simp
  ·rw [B4 Ec];simp
 | n+1,m+1,k,x,hk,hn=>by
  have hlt:k<C.length:=by omega
  have hc:=hC C[k] (A1 _);obtain ⟨x',h1,h2,h3,h4,h5,h6,h7⟩:=qop (l:=l) (y174:=y174) (r:=r) C hC hlen n m (k+1) { x with ring:=x.ring.set C[k] (r:Int),on_:=x.on_.set C[k] false } Ec Ec;refine ⟨x',?_,h2,h3,h4,h5,fun j=>?_,fun j=>?_⟩
  ·rw [qdy,qag (qaf (by simp;omega)),qa5,X6,Xl hlt];simp only [Xw,qaa,qay (show (0:Int)≤((C[k]:Nat):Int) by omega) (show ((C[k]:Nat):Int)<32 by omega),qxt hc,qu7 hc,qgh hc,wrs k (show k≤17592186043904 by omega)];exact h1
  ·rw [h6 j,X3 hlt];show (if j∈C.drop (k+1) then (r:Int) else iat (x.ring.set C[k] (r:Int)) j)=_;rw [qoo hc];simp only [Xm];by_cases e:C[k]=j
   ·rw [if_pos e,if_pos (show j=C[k]∨j∈C.drop (k+1) from .inl e.symm)];split<;>rfl
   ·have e2:¬ j=C[k]:=fun h=>e h.symm;rw [if_neg e];simp only [e2,false_or]
  ·rw [h7 j,X3 hlt];show (if j∈C.drop (k+1) then false else bat (x.on_.set C[k] false) j)=_;rw [qf0 hc];simp only [Xm];by_cases e:C[k]=j
   ·rw [if_pos e,if_pos (show j=C[k]∨j∈C.drop (k+1) from .inl e.symm)];split<;>rfl
   ·have e2:¬ j=C[k]:=fun h=>e h.symm;rw [if_neg e];simp only [e2,false_or]
theorem qoq {fu:Nat} {x:GSearch} {l l2:List Int} {y174:Int} (hcut:qr8 l (some y174) none=some l2) (C:List Nat) (hlen:C.length≤32):∀ (n m k r:Nat),C.length=k+m→m<n→r∈C→(∀ i v,i<k→C[i]? = some v→r≤v) →
 ∃ r':Nat,qdz fu x l y174 (C.map fun c=>((c:Nat):Int)) n r k=qdy l y174 (r':Int) l2 fu x 0∧r'∈C∧∀ v∈C,r'≤v
 | 0,m,k,r,_,h,_,_=>absurd h Ec
 | n+1,0,k,r,hk,_,hr,hmin=>by
  refine ⟨r,?_,hr,fun v hv=>?_⟩
  ·rw [qdz,qad (qae (by simp;omega)),hcut,qaa]
  ·obtain ⟨i,hi,rfl⟩:=List.getElem_of_mem hv;exact hmin i _ Ec (List.getElem?_eq_getElem hi)
 | n+1,m+1,k,r,hk,hn,hr,hmin=>by
  have hlt:k<C.length:=by omega
  have hmn:min (r:Int) (C[k]:Int)=((min r C[k]:Nat):Int):=by
   by_cases h:r≤C[k]
   ·rw [Bt h,D7 Ec]
   ·rw [Bq Ec,Dz Ec]
  obtain ⟨r',h1,h2,h3⟩:=qoq (fu:=fu) (x:=x) hcut C hlen n m (k+1) (min r C[k]) Ec Ec (by
   by_cases h:r≤C[k]
   ·rw [Bt h];exact hr
   ·rw [Bq Ec];exact A1 _) (fun i v hi hv=>by
   by_cases e:i=k
   ·subst e
    rw [Xl hlt] at hv
    cases hv
    exact Dy _ _
   ·exact X5 (Bl _ _) (hmin i v Ec hv))
  refine ⟨r',?_,h2,h3⟩;rw [qdz,qag (qaf (by simp;omega)),qa5,X6,Xl hlt];simp only [Xw,qaa];rw [hmn,wrs k Ec];exact h1
theorem qor {fu:Nat} {x:GSearch} {S:List Nat} {m p:Nat} (hlen:S.length≤32) (hp:S[p]? = some m) (hno:∀ i,p<i→S[i]? ≠ some m):∀ (n d:Nat),d<n→p+d<S.length →
 qe2 fu m x (S.map fun c=>((c:Nat):Int)) n ((p+d:Nat):Int)=(qr8 (S.map fun c=>((c:Nat):Int)) (some (p:Int)) none).bind fun l2=>qdz fu x (S.map fun c=>((c:Nat):Int)) p l2 fu m 0
 | 0,d,h,_=>absurd h Ec
 | n+1,0,_,hd=>by
  rw [qe2,qa5,List.getElem?_map,Nat.add_zero,hp];simp only [Option.map_some,qaa];rw [qad (by simp)]
 | n+1,d+1,hn,hd=>by
  have ih:=qor (fu:=fu) (x:=x) hlen hp hno n d Ec Ec;have hlt:p+(d+1)<S.length:=hd;have hne:=hno (p+(d+1)) Ec;rw [Xl hlt] at hne;rw [qe2,qa5,X6,Xl hlt];simp only [Xw,qaa];rw [qag (by simp only [bne_iff_ne,ne_eq];exact fun h=>hne (by rw [qhr h])),qc6 Ec Ec,show (((p+(d+1):Nat):Int)-1)=((p+d:Nat):Int) from by omega];exact ih
theorem q0e {α : Type} {l:List α} {p:Nat} (hp:p≤l.length):qr8 l (some (p:Int)) none=some (l.drop p):=by
 unfold qr8 qe0;simp only [X1,A8];rw [if_pos Ec];simp
theorem q0f {α : Type} {l:List α} {p:Nat} (hp:p≤l.length):qr8 l none (some (p:Int))=some (l.take p):=by
 unfold qr8 qe0;simp only [X1,A8];rw [if_pos Ec];simp
theorem q0g {fu n:Nat} (hfu:40≤fu) {g:GGraph} {x:GSearch} {l:List Int} {s t:Srch} {G:List Nat} {m:Nat} {ds:Nat→Prop} (hm:m<32) (hg:x.g=g) (hA:Abs x l t) (h:LI (DE g) s G m t ds) (hall:∀ d,DE g m d→ds d) {rec0:GSearch→List Int→Int→Option (GSearch × List Int)} {xs:List Int} {k:Int} (hk:¬ k<(xs.length:Int)) :
 ∃ x' l' t',qd0 fu m rec0 xs (n+1) x l k=some (x',l')∧x'.g=g∧Abs x' l' t'∧Post (DE g) s t' m G:=by
 rw [qd0,qad (qae hk),qay Ec Ec,qaa,qxt hm,qaa,qaa,qxt hm,qaa,hA.low m hm,hA.mark m hm];by_cases hlow:t.low m=t.mark m
 ·rw [qad (by simp [hlow])];obtain ⟨new,hst,hnew⟩:=h.stack;have hlen:=qtc h.inv;have hsl:t.stack.length=s.stack.length+(new.length+1):=by rw [hst];simp
  have hp:t.stack[s.stack.length]? = some m:=by rw [hst];simp
  have hno:∀ i,s.stack.length<i→t.stack[i]? ≠ some m:=fun i hi he=>by
   obtain ⟨h1,h2⟩:=Xi.1 he;obtain ⟨h3,h4⟩:=Xi.1 hp;have:=Al.1 h.inv.sorted s.stack.length i h3 h1 hi;rw [h2,h4] at this;omega
  have hlm:l=t.stack.map fun c=>((c:Nat):Int):=hA.stack;subst hlm;have e1:=qor (fu:=fu) (x:=x) (S:=t.stack) (m:=m) (p:=s.stack.length) hlen hp hno fu new.length Ec Ec;have e0:IntKind.wrap .i64 (((t.stack.map fun c=>((c:Nat):Int)).length:Int)-1)=((s.stack.length+new.length:Nat):Int):=by
   rw [A6,qc6 Ec Ec];omega
  have hcut:qr8 (t.stack.map fun c=>((c:Nat):Int)) (some (s.stack.length:Int)) none=some ((m::new).map fun c=>((c:Nat):Int)):=by
   rw [q0e (by rw [A6];omega),hst,← Eb,Di]
  have hC:∀ c∈m::new,c<32:=fun c hc=>h.inv.lt c (h.inv.pos c (by rw [hst];exact Ak _ hc));have hCl:(m::new).length≤32:=by rw [Xy];omega
  rw [e0,e1,hcut,qaa];obtain ⟨r,h3,h4,h5⟩:=qoq (fu:=fu) (x:=x) hcut (m::new) hCl fu (m::new).length 0 m Ec Ec Xk (fun i v hi=>by omega);have h3:qdz fu x (t.stack.map fun c=>((c:Nat):Int)) (s.stack.length:Int) ((m::new).map fun c=>((c:Nat):Int)) fu m 0=_:=h3;rw [h3];obtain ⟨x',k1,k2,k3,k4,k5,k6,k7⟩:=qop (l:=t.stack.map fun c=>((c:Nat):Int)) (y174:=(s.stack.length:Int)) (r:=r) (m::new) hC hCl fu (m::new).length 0 x Ec Ec;have k1:qdy (t.stack.map fun c=>((c:Nat):Int)) (s.stack.length:Int) r ((m::new).map fun c=>((c:Nat):Int)) fu x 0=_:=k1;rw [k1,q0f (by rw [A6];omega),qaa];rw [Bi] at k6 k7;refine ⟨_,_,{ t with ring:=fun v=>if v∈m::new then r else t.ring v,stack:=s.stack },rfl,k2.trans hg,⟨fun j hj=>?_,fun j hj=>?_,fun j hj=>?_,fun j hj=>?_,?_,?_⟩,?_⟩
  ·show iat x'.mark_ j=_;rw [k3];exact hA.mark j hj
  ·show iat x'.low j=_;rw [k4];exact hA.low j hj
  ·show iat x'.ring j=((if j∈m::new then r else t.ring j:Nat):Int);rw [k6 j,hA.ring j hj];split<;>rfl
  ·show bat x'.on_ j=decide (j∈s.stack);rw [k7 j,hA.on j hj,hst];by_cases hj2:j∈m::new
   ·rw [if_pos hj2];symm;rw [decide_eq_false_iff_not];intro hs;have:=h.new hst hj2;have:=h.old hs;omega
   ·rw [if_neg hj2];congr 1;rw [Xr];simp [hj2]
  ·show (t.stack.map fun c=>((c:Nat):Int)).take s.stack.length=_;rw [hst,Aq,List.take_left' (by simp)]
  ·show x'.next=_;rw [k5];exact hA.next
  ·exact h.pop hall hlow hst (fun v hv=>if_pos hv) (fun v hv=>if_neg hv) h4 h5
 ·rw [qag (by simp only [bne_iff_ne,ne_eq];exact fun e=>hlow (qhr e))];exact ⟨x,l,t,rfl,hg,hA,h.keep hall hlow⟩
theorem qos {fu n N:Nat} {g:GGraph} (hN:qm3 g N) (hfu:N+40≤fu) (hV:VOk g fu n) {s:Srch} {G:List Nat} {m:Nat} (hm:m<32) (hwh:wh s.mark≤n+1):∀ (q r k:Nat) (x:GSearch) (l:List Int) (t:Srch),(qa9 g m).length=k+r→r<q→x.g=g→Abs x l t →
 LI (DE g) s G m t (fun d=>d<32∧(d:Int)∈(qa9 g m).take k)→∃ x' l' t',qd0 fu m (qhd fu n) (qa9 g m) q x l k=some (x',l')∧x'.g=g∧Abs x' l' t'∧Post (DE g) s t' m G
 | 0,r,k,x,l,t,_,h,_,_,_=>absurd h Ec
 | q+1,0,k,x,l,t,hk,_,hg,hA,hL=>q0g Ec hm hg hA hL (fun d hd=>⟨hd.2.2,by rw [List.take_of_length_le Ec];exact hd.2.1⟩) Ec
 | q+1,r+1,k,x,l,t,hk,hq,hg,hA,hL=>by
  have hlt:k<(qa9 g m).length:=by omega
  have hlen:=(hN m).2;have ih:=fun x l t h1 h2 h3=>qos (s:=s) (G:=G) hN hfu hV hm hwh q r (k+1) x l t Ec Ec h1 h2 h3;have htake:(qa9 g m).take (k+1)=(qa9 g m).take k++[(qa9 g m)[k]]:=List.take_succ_eq_append_getElem hlt;have hmem:(qa9 g m)[k]∈qa9 g m:=List.getElem_mem _;rw [qd0,qag (qaf Ec),qa5,List.getElem?_eq_getElem hlt,qaa];simp only [qk2,qhc,wrs k Ec];rw [htake] at ih;generalize (qa9 g m)[k]=y at ih hmem ⊢;rcases qgx y with ⟨d,hd,rfl⟩ | hy
  ·have hset:∀ v:Nat,(v<32∧(v:Int)∈(qa9 g m).take k++[(d:Int)])→((v<32∧(v:Int)∈(qa9 g m).take k)∨v=d):=fun v ⟨h1,h2⟩=>by
    rcases List.mem_append.1 h2 with h3 | h3
    ·exact .inl ⟨h1,h3⟩
    ·exact .inr (qhr (by simpa using h3))
   have hE:DE g m d:=⟨hm,hmem,hd⟩;rw [qad (qae Ec),qad (qae Ec),qay Ec Ec,qaa,qxt hd,qaa,hA.mark d hd];by_cases h0:t.mark d=0
   ·rw [qag (by simp [h0])];have hmm:m∈t.stack:=by obtain ⟨new,hst,_⟩:=hL.stack;rw [hst];simp
    have hw2:wh t.mark≤n:=by
     have h1:=qrm (x:=1) hm hL.white Ec;have h2:wh t.mark≤wh (qj0 s.mark m 1):=q4t fun v hv=>by
      by_cases e:v=m
      ·subst e;rw [hL.nmark];omega
      ·rw [qcr _ _ e] at hv;rw [hL.ext.mark_old v hv];exact hv
     omega
    obtain ⟨x',l',t',h1,h2,h3,h4⟩:=hV x l t (m::G) d hg hA hL.inv h0 hd (fun a ha=>by
     rcases Xm.1 ha with rfl | ha
     ·exact Path.one hE
     ·have h5:=hL.old (hL.was.gray a ha)
      exact (hL.inv.reach a (Xj _ ha) m hmm Ec).tail hE) hw2
    rw [h1,qaa];simp only;simp only [qay (show (0:Int)≤(m:Int) by omega) (show (m:Int)<32 by omega),qxt hm,qxt hd,qgh hm,qaa];have hL2:=(hL.visit h0 hE h4).sub hset;refine ih _ _ { t' with low:=qj0 t'.low m (min (t'.low m) (t'.low d)) } h2 ⟨h3.mark,fun j hj=>?_,h3.ring,h3.on,h3.stack,h3.next⟩ hL2;show iat (x'.low.set m _) j=((qj0 t'.low m (min (t'.low m) (t'.low d)) j:Nat):Int);rw [qoo hm,h3.low m hm,h3.low d hd];by_cases e:m=j
    ·subst e;rw [if_pos rfl,qdc];by_cases h:t'.low m≤t'.low d
     ·rw [Bt h,D7 Ec]
     ·rw [Bq Ec,Dz Ec]
    ·rw [if_neg e,qcr _ _ (fun h=>e h.symm)];exact h3.low j hj
   ·rw [qad (by simp;omega),qaa,qu7 hd,qaa,hA.on d hd];by_cases hs:d∈t.stack
    ·rw [qag (qaf hs)];simp only [qay (show (0:Int)≤(m:Int) by omega) (show (m:Int)<32 by omega),qxt hm,qgh hm,qaa];have hL2:=(hL.on hs hE).sub hset;refine ih _ _ { t with low:=qj0 t.low m (min (t.low m) (t.mark d)) } hg ⟨hA.mark,fun j hj=>?_,hA.ring,hA.on,hA.stack,hA.next⟩ hL2;show iat (x.low.set m _) j=((qj0 t.low m (min (t.low m) (t.mark d)) j:Nat):Int);rw [qoo hm,hA.low m hm];by_cases e:m=j
     ·subst e;rw [if_pos rfl,qdc];by_cases h:t.low m≤t.mark d
      ·rw [Bt h,D7 Ec]
      ·rw [Bq Ec,Dz Ec]
     ·rw [if_neg e,qcr _ _ (fun h=>e h.symm)];exact hA.low j hj
    ·rw [qad (qae hs)];exact ih _ _ _ hg hA ((hL.skip Ec hs).sub hset)
  ·have hset:∀ v:Nat,(v<32∧(v:Int)∈(qa9 g m).take k++[y])→(v<32∧(v:Int)∈(qa9 g m).take k):=fun v ⟨h1,h2⟩=>by
    rcases Xr.1 h2 with h3 | h3
    ·exact ⟨h1,h3⟩
    ·have:(v:Int)=y:=by simpa using h3
     exact absurd (show 0≤y∧y<32 by omega) hy
   have:=ih x l t hg hA (hL.sub hset);by_cases h0:y<0
   ·rw [qag (qaf h0)];exact this
   ·rw [qad (qae h0),qag (qaf Ec)];exact this
theorem qml {fu N:Nat} {g:GGraph} (hN:qm3 g N) (hfu:N+40≤fu):∀ n,VOk g fu n
 | 0=>fun x l t G m _ _ _ h0 hm _ hw=>by
  have:=qrm (x:=1) hm h0 Ec;omega
 | n+1=>fun x l t G m hg hA hI h0 hm hG hw=>by
  have hc:=hI.cnt;have hw1:=qrm (x:=1) hm h0 Ec;have hn:IntKind.wrap .i64 (x.next+1)=((t.next+1:Nat):Int):=by rw [hA.next,qc6 Ec Ec];omega
  have hsl:=qtc hI;have hll:l.length=t.stack.length:=by rw [hA.stack];simp
  have hin:inR (m:Int) 32=some ():=qay Ec Ec;have happ:app l [(m:Int)]=some (l++[(m:Int)]):=qbs (a:=l) (b:=[(m:Int)]) (qok (show l.length≤100 by omega));rw [qhd];simp only [qaa,hin,qxt hm,hn,qgh hm,happ,qu7 hm];rw [hg,q74 hm,qaa];have hL:=LI.start hI hm h0 hG;refine qos hN hfu (qml hN hfu n) hm hw fu (qa9 g m).length 0 _ _ (qs9 t m) Ec (by have:=(hN m).1;omega) rfl ⟨fun j hj=>?_,fun j hj=>?_,hA.ring,fun j hj=>?_,?_,rfl⟩ (hL.sub fun d hd=>by simp at hd)
  ·show iat (x.mark_.set m _) j=((qj0 t.mark m (t.next+1) j:Nat):Int);rw [qoo hm];by_cases e:m=j
   ·subst e;rw [if_pos rfl,qdc]
   ·rw [if_neg e,qcr _ _ (fun h=>e h.symm)];exact hA.mark j hj
  ·show iat (x.low.set m _) j=((qj0 t.low m (t.next+1) j:Nat):Int);rw [qoo hm];by_cases e:m=j
   ·subst e;rw [if_pos rfl,qdc]
   ·rw [if_neg e,qcr _ _ (fun h=>e h.symm)];exact hA.low j hj
  ·show bat (x.on_.set m true) j=decide (j∈t.stack++[m]);rw [qf0 hm,hA.on j hj];by_cases e:m=j
   ·subst e;simp
   ·have e2:¬ j=m:=fun h=>e h.symm;simp [e,e2]
  ·show l++[(m:Int)]=(t.stack++[m]).map _;rw [hA.stack];simp
theorem q0h {fu N:Nat} {g:GGraph} (hN:qm3 g N) (hfu:N+40≤fu) {m:Nat} (hm:m<32):∃ x' l',qzq fu { g:=g,mark_:=Zr.zd,low:=Zr.zd,on_:=Zr.zd,stack:=Zr.zd,ring:=Zr.zd,next:=Zr.zd } [] m=some (x',l')∧x'.g=g ∧
 (∀ k,k<32→(0<iat x'.mark_ k↔Path (DE g) m k))∧(∀ k,k<32→0≤iat x'.mark_ k)∧∀ k,k<32→Path (DE g) m k→∃ r:Nat,iat x'.ring k=r∧qrl (DE g) k r:=by
 let t0:Srch:=⟨fun _=>0,fun _=>0,fun _=>0,[],0⟩;have hI:Inv (DE g) t0 []:=Inv.empty (fun _=>rfl) rfl rfl;have hw:wh t0.mark≤fu:=by have:=hI.cnt;omega
 obtain ⟨x',l',t',h1,h2,h3,h4⟩:=qml hN hfu fu { g:=g,mark_:=Zr.zd,low:=Zr.zd,on_:=Zr.zd,stack:=Zr.zd,ring:=Zr.zd,next:=Zr.zd } [] t0 [] m rfl
  ⟨fun k _=>qrp k,fun k _=>qrp k,fun k _=>qrp k,fun k _=>by rw [qnf];rfl,rfl,rfl⟩ hI rfl hm (by simp) hw
 obtain ⟨h5,h6⟩:=h4.final fun _=>rfl;refine ⟨x',l',h1,h2,fun k hk=>?_,fun k hk=>?_,fun k hk hp=>⟨t'.ring k,h3.ring k hk,h6 k hp⟩⟩
 ·rw [h3.mark k hk,← h5 k];omega
 ·rw [h3.mark k hk];omega
open Classical in
noncomputable def qbk (g:GGraph) (a b:Nat):Bool:=decide (Path (ql0 g) a b)
theorem pathB_iff {g:GGraph} {a b:Nat}:qbk g a b=true↔Path (ql0 g) a b:=by simp [qbk]
theorem qf1 (g:GGraph):Pre (qbk g) :=
 ⟨fun a _=>pathB_iff.2 (.refl a),fun a b c h1 h2=>pathB_iff.2 ((pathB_iff.1 h1).trans (pathB_iff.1 h2)),fun a b ha h=>qro (pathB_iff.1 h) ha⟩
noncomputable def qwf (g:GGraph) (x:Int):List Int:=if qhx g x=true then (qz9 (qbk g) x.toNat).map (fun k=>((k:Nat):Int)) else []
def qc1 (l:List Nat):List Int:=l.map fun k=>((k:Nat):Int)
theorem qlg (l:List Nat):(qc1 l).length=l.length:=by simp [qc1]
theorem qxu (l:List Nat) (k:Nat):qc1 l++[(k:Int)]=qc1 (l++[k]):=by simp [qc1]
theorem q0i {l:List Nat} {k:Nat}:(k:Int)∈qc1 l↔k∈l:=by
 unfold qc1;rw [Be];constructor
 ·rintro ⟨a,ha,e⟩;have:a=k:=qhr e;subst this;exact ha
 ·exact fun h=>⟨k,h,rfl⟩
theorem qxv {l:List Nat} {k:Nat}:qd4 (qc1 l) (k:Int)=decide (k∈l):=by
 rw [Ar,decide_eq_true_eq,← q0i];unfold qd4;simp
structure Rings (g:GGraph) (n:Nat) (x:GSearch):Prop where
 same:x.g=g
 known:∀ k,qbk g n k=true→bat g.known k=true
 mark:∀ k,k<32→(0<iat x.mark_ k↔qbk g n k=true)
 nonneg:∀ k,k<32→0≤iat x.mark_ k
 ring:∀ k,k<32→qbk g n k=true→∃ r:Nat,iat x.ring k=r∧qrl (ql0 g) k r
theorem qf2 {g:GGraph} {n:Nat} (hk:∀ k,qbk g n k=true→bat g.known k=true) {a b:Nat} (ha:qbk g n a=true):Path (DE g) a b↔Path (ql0 g) a b:=by
 constructor
 ·intro h
  induction h with
  | refl=>exact .refl _
  | tail _ e ih=>exact ih.tail ⟨e.1,hk _ (pathB_iff.2 ((pathB_iff.1 ha).trans ih)),e.2.1,e.2.2⟩
 ·intro h
  induction h with
  | refl=>exact .refl _
  | tail _ e ih=>exact ih.tail ⟨e.1,e.2.2.1,e.2.2.2⟩
theorem ql1 {E:Nat→Nat→Prop} {u v r q:Nat} (hr:qrl E u r) (hq:qrl E v q) (h1:Path E u v) (h2:Path E v u):r=q:=by
 have a:=hr.2.2 q (h1.trans hq.1) (hq.2.1.trans h2);have b:=hq.2.2 r (h2.trans hr.1) (hr.2.1.trans h1);omega
section
variable {g:GGraph} {n:Nat} {x:GSearch} {out:List Nat} {placed:Vector Bool 32}
theorem Rings.least (h:Rings g n x) (hn:n<32) {k:Nat} (hk:qbk g n k=true) {r:Nat} (hr:iat x.ring k=r):qrl (ql0 g) k r:=by
 obtain ⟨q,h1,h2⟩:=h.ring k (qro (pathB_iff.1 hk) hn) hk;rw [hr] at h1;rw [qhr h1];exact h2
def q9j (g:GGraph) (x:GSearch) (y:Int) (placed:Vector Bool 32) (k:Nat):Prop:=∀ m,k≤m→m<32→iat x.mark_ m≠0→iat x.ring m=y→∀ d:Nat,d<32→(d:Int)∈qa9 g m→iat x.ring d≠y→bat placed d=true
theorem qql {y9:Int} {y:Int} {rec:Int→Option Bool} {ds:List Int} (hds:ds.length≤17592186043904):∀ (q r k:Nat),ds.length=k+r→r<q →
 (qcu x y placed y9 rec ds q k=rec (IntKind.wrap .i64 (y9+1))∧∀ d:Nat,d<32→(d:Int)∈ds.drop k→iat x.ring d≠y→bat placed d=true) ∨
 (qcu x y placed y9 rec ds q k=some false∧∃ d:Nat,d<32∧(d:Int)∈ds.drop k∧iat x.ring d≠y∧bat placed d=false)
 | 0,r,k,_,h=>absurd h Ec
 | q+1,0,k,hk,_=>by
  left;refine ⟨by rw [qcu,qad (qae Ec)];rfl,fun d _ hm=>?_⟩;rw [List.drop_of_length_le Ec] at hm;simp at hm
 | q+1,r+1,k,hk,hq=>by
  have hlt:k<ds.length:=by omega
  have ih:=qql (y9:=y9) (y:=y) (rec:=rec) hds q r (k+1) Ec Ec;rw [qcu,qag (qaf Ec),qa5,Xl hlt,qaa,qwe hlt];simp only [qkh,qre,wrs k Ec];generalize ds[k]=z;have more:(∀ d:Nat,d<32→z=(d:Int)→iat x.ring d≠y→bat placed d=true) →
   (qcu x y placed y9 rec ds q ((k+1:Nat):Int)=rec (IntKind.wrap .i64 (y9+1))∧∀ d:Nat,d<32→(d:Int)∈z::ds.drop (k+1)→iat x.ring d≠y→bat placed d=true) ∨
   (qcu x y placed y9 rec ds q ((k+1:Nat):Int)=some false∧∃ d:Nat,d<32∧(d:Int)∈z::ds.drop (k+1)∧iat x.ring d≠y∧bat placed d=false):=fun hz=>by
   rcases ih with ⟨h1,h2⟩ | ⟨h1,d,h2,h3,h4,h5⟩
   ·refine .inl ⟨h1,fun d hd hm hr=>?_⟩
    rcases Xm.1 hm with e | hm
    ·exact hz d hd e.symm hr
    ·exact h2 d hd hm hr
   ·exact .inr ⟨h1,d,h2,Xj _ h3,h4,h5⟩
  rcases qgx z with ⟨d,hd,rfl⟩ | hz
  ·rw [qag (qaf Ec),qag (qaf Ec),qay Ec Ec,qaa,qxt hd,qaa];by_cases hr:iat x.ring d=y
   ·rw [qad (by simp [hr])];exact more fun c _ e hne=>by
     have:d=c:=qhr e;subst this;exact absurd hr hne
   ·rw [qag (by simp [hr]),qaa,qu7 hd,qaa];cases hp:bat placed d with
    | true =>
     exact more fun c _ e _=>by
      have:d=c:=qhr e;subst this;exact hp
    | false=>exact .inr ⟨rfl,d,hd,Xk,hr,hp⟩
  ·have:=more fun d hd e _=>absurd (show 0≤z∧z<32 by omega) hz;by_cases h0:z≥0
   ·rw [qag (qaf h0),qad (qae Ec)];exact this
   ·rw [qad (qae h0)];exact this
theorem qqm {fu N:Nat} (hN:qm3 g N) (hfu:N≤fu) (hg:x.g=g) {y:Int}:∀ (q r k:Nat),k+r=32→r<q→∃ b,qd9 fu x y placed q k=some b∧(b=true↔q9j g x y placed k)
 | 0,r,k,_,h=>absurd h Ec
 | q+1,0,k,hk,_=>⟨true,by rw [qd9,qad (qae Ec)],by simp only [true_iff];intro m h1 h2;omega⟩
 | q+1,r+1,k,hk,hq=>by
  have hk32:k<32:=by omega
  obtain ⟨b,h1,h2⟩:=qqm hN hfu hg q r (k+1) Ec Ec;have step:(iat x.mark_ k≠0→iat x.ring k=y→∀ d:Nat,d<32→(d:Int)∈qa9 g k→iat x.ring d≠y→bat placed d=true)→(b=true↔q9j g x y placed k):=fun hs=>by
   rw [h2];constructor
   ·intro h m hm;by_cases e:m=k
    ·subst e;intro _;exact hs
    ·exact h m Ec
   ·intro h m hm;exact h m Ec
  rw [qd9,qag (qaf Ec),qay Ec Ec,qaa,qxt hk32,qaa];simp only [qn0,qnz,wrs k Ec];by_cases h0:iat x.mark_ k=0
  ·rw [qag (by simp [h0])];exact ⟨b,h1,step fun h=>absurd h0 h⟩
  ·rw [qad (by simp [h0]),qaa,qxt hk32,qaa];by_cases hr:iat x.ring k=y
   ·rw [qad (by simp [hr]),qrf,qay Ec Ec,qaa,hg,q74 hk32,qaa];have:=qql (x:=x) (placed:=placed) (y9:=(k:Int)) (y:=y) (rec:=qd9 fu x y placed q) (hN k).2 fu (qa9 g k).length 0 Ec (by have:=(hN k).1;omega);rw [Bi,wrs k Ec] at this;rcases this with ⟨h3,h4⟩ | ⟨h3,d,hd,h4,h5,h6⟩
    ·have h3:qcu x y placed (k:Int) (qd9 fu x y placed q) (qa9 g k) fu 0=_:=h3;exact ⟨b,by rw [h3];exact h1,step fun _ _=>h4⟩
    ·have h3:qcu x y placed (k:Int) (qd9 fu x y placed q) (qa9 g k) fu 0=_:=h3;refine ⟨false,h3,?_⟩;simp only [A0,false_iff];intro hf;have:=hf k (Xx _) hk32 h0 hr d hd h4 h5;rw [h6] at this;cases this
   ·rw [qag (by simp [hr])];exact ⟨b,h1,step fun _ h=>absurd h hr⟩
def Test (g:GGraph) (n:Nat) (x:GSearch) (out:List Nat) (placed:Vector Bool 32) (y:Nat):Prop:=qbk g n y=true∧y∉out∧iat x.ring y=(y:Int)∧q9j g x y placed 0
theorem Test.cand (hR:Rings g n x) (hn:n<32) (hO:OKO (qbk g) n out) (hP:∀ k,k<32→bat placed k=decide (k∈out)) {y:Nat} (h:Test g n x out placed y):qoj (qbk g) n out y=true:=by
 obtain ⟨h1,h2,h3,h4⟩:=h;have hpre:=qf1 g;have hy32:=hpre.lt _ _ hn h1;rw [candO_iff];refine ⟨h1,h2,fun d hd hyd=>?_⟩;have hcl:∀ a b,((qbk g y a=true∧qbk g a y=true)∨a∈out)→ql0 g a b→((qbk g y b=true∧qbk g b y=true)∨b∈out):=by
  intro a b ha hab;rcases ha with ⟨ha1,ha2⟩ | ha
  ·have hyb:=hpre.trans _ _ _ ha1 (pathB_iff.2 (Path.one hab));cases hby:qbk g b y with
   | true=>exact .inl ⟨hyb,rfl⟩
   | false =>
    right;have hna:=hpre.trans _ _ _ h1 ha1;have ha32:=hpre.lt _ _ hn hna;obtain ⟨r,hr1,hr2⟩:=hR.ring a ha32 hna;have hra:iat x.ring a=(y:Int):=by
     rw [hr1,ql1 hr2 (hR.least hn h1 h3) (pathB_iff.1 ha2) (pathB_iff.1 ha1)]
    have hma:iat x.mark_ a≠0:=by have:=(hR.mark a ha32).2 hna;omega
    have hnb:=hpre.trans _ _ _ h1 hyb;have hrb:iat x.ring b≠(y:Int):=fun e=>by
     have:=(hR.least hn hnb e).1;rw [pathB_iff.2 this] at hby;cases hby
    have:=h4 a (Xs _) ha32 hma hra b hab.2.2.2 hab.2.2.1 hrb;rw [hP b hab.2.2.2] at this;simpa using this
  ·exact .inr (hO.dc a ha b (pathB_iff.2 (Path.one hab)))
 have:=Path.closed (S:=fun a=>(qbk g y a=true∧qbk g a y=true)∨a∈out) hcl (pathB_iff.1 hyd) (.inl ⟨hpre.refl y hy32,hpre.refl y hy32⟩);rcases this with h5 | h5
 ·exact .inl h5.2
 ·exact .inr h5
theorem Test.of_next (hR:Rings g n x) (hn:n<32) (hO:OKO (qbk g) n out) (hP:∀ k,k<32→bat placed k=decide (k∈out)) {c:Nat} (h:qhz (qbk g) n out=some c):Test g n x out placed c:=by
 have hpre:=qf1 g;obtain ⟨hc32,hcand,hmin⟩:=qe8 h;have hcand':=candO_iff.1 hcand;obtain ⟨h1,h2,h3⟩:=hcand';obtain ⟨r,hr1,hr2⟩:=hR.ring c hc32 h1;have hcr:qbk g c r=true:=pathB_iff.2 hr2.1;have hrc:qbk g r c=true:=pathB_iff.2 hr2.2.1;have hrle:r≤c:=hr2.2.2 c (.refl _) (.refl _);have hr:r=c:=by
  rcases Bx r c with hlt | hge
  ·have hno:=hmin r hlt;have hy:qoj (qbk g) n out r=true:=by
    rw [candO_iff];refine ⟨hpre.trans _ _ _ h1 hcr,fun hro=>h2 (hO.dc r hro c hrc),fun d hd hrd=>?_⟩
    ·rcases h3 d hd (hpre.trans _ _ _ hcr hrd) with h4 | h4
     ·exact .inl (hpre.trans _ _ _ h4 hcr)
     ·exact .inr h4
   rw [hy] at hno;cases hno
  ·omega
 subst hr;refine ⟨h1,h2,hr1,fun a _ ha32 hma hra d hd hmd hrd=>?_⟩;have hna:=(hR.mark a ha32).1 (by have:=hR.nonneg a ha32;omega);have hl:=hR.least hn hna hra;have had:qbk g a d=true:=pathB_iff.2 (Path.one ⟨ha32,hR.known a hna,hmd,hd⟩);have hcd:=hpre.trans _ _ _ (pathB_iff.2 hl.2.1) had;rw [hP d hd];rcases h3 d hd hcd with h4 | h4
 ·exfalso;have hnd:=hpre.trans _ _ _ h1 hcd;obtain ⟨q,hq1,hq2⟩:=hR.ring d hd hnd;refine hrd ?_;rw [hq1,ql1 hq2 hr2 (pathB_iff.1 h4) (pathB_iff.1 hcd)]
 ·exact qaf h4
def optI:Option Nat→Int
 | some a=>a
 | none => -1
def qnh (placed:Vector Bool 32) (out:List Nat):Prop:=∀ k,k<32→bat placed k=decide (k∈out)
theorem q2h (hR:Rings g n x) (hn:n<32) {c:Nat} (hc:qbk g n c=true) (hrc:iat x.ring c=(c:Int)) {k:Nat} (hk:k<32):(0<iat x.mark_ k∧iat x.ring k=(c:Int))↔(qbk g c k=true∧qbk g k c=true):=by
 have hpre:=qf1 g;constructor
 ·rintro ⟨h1,h2⟩;have hl:=hR.least hn ((hR.mark k hk).1 h1) h2;exact ⟨pathB_iff.2 hl.2.1,pathB_iff.2 hl.1⟩
 ·rintro ⟨h1,h2⟩;have hnk:=hpre.trans _ _ _ hc h1;refine ⟨(hR.mark k hk).2 hnk,?_⟩;obtain ⟨r,hr1,hr2⟩:=hR.ring k hk hnk;rw [hr1,ql1 hr2 (hR.least hn hc hrc) (pathB_iff.1 h2) (pathB_iff.1 h1)]
theorem qmm {rec:Vector Bool 32→GSearch→List Int→Option (List Int)} (hR:Rings g n x) (hn:n<32) {c:Nat} (hc:qbk g n c=true) (hrc:iat x.ring c=(c:Int)):∀ (q r k:Nat) (placed:Vector Bool 32) (o:List Nat),k+r=32→r<q→o.length≤k+32 →
 qnh placed o→∃ placed',qcm rec x (c:Int) q placed (qc1 o) k=rec placed' x (qc1 (o++((List.range 32).drop k).filter fun m=>qbk g c m&&qbk g m c))∧qnh placed' (o++((List.range 32).drop k).filter fun m=>qbk g c m&&qbk g m c)
 | 0,r,k,placed,o,_,h,_,_=>absurd h Ec
 | q+1,0,k,placed,o,hk,_,_,hP=>⟨placed,by
  rw [qcm,qad (qae Ec),List.drop_of_length_le (by simp;omega),List.filter_nil,List.append_nil],by
  rw [List.drop_of_length_le (by simp;omega),List.filter_nil,List.append_nil];exact hP⟩
 | q+1,r+1,k,placed,o,hk,hq,ho,hP=>by
  have hk32:k<32:=by omega
  have ih:=fun placed o h1 h2=>qmm (rec:=rec) hR hn hc hrc q r (k+1) placed o Ec Ec h1 h2;have hmem:=q2h hR hn hc hrc hk32;have hdrop:(List.range 32).drop k=k::(List.range 32).drop (k+1):=by
   rw [X3 (by simp;omega)];simp
  rw [qcm,qag (qaf Ec),hdrop,Dv];simp only [qay (show (0:Int)≤(k:Int) by omega) (show (k:Int)<32 by omega),qaa,qxt hk32,qih,qig,wrs k Ec];have hno:¬ (0<iat x.mark_ k∧iat x.ring k=(c:Int))→(qbk g c k&&qbk g k c)=false:=fun h=>by
   cases h1:(qbk g c k&&qbk g k c) with
   | false=>rfl
   | true=>exact absurd (hmem.2 (by simpa using h1)) h
  by_cases h1:0<iat x.mark_ k
  ·rw [qag (qaf h1)];by_cases h2:iat x.ring k=(c:Int)
   ·have h3:=hmem.1 ⟨h1,h2⟩;rw [qag (by simp [h2]),qu7 hk32];simp only [qaa,qgh hk32];rw [qbs (a:=qc1 o) (b:=[(k:Int)]) (qok (show (qc1 o).length≤100 by rw [qlg];omega)),qaa,qxu,h3.1,h3.2];obtain ⟨p',e1,e2⟩:=ih (placed.set k true) (o++[k]) (by simp;omega) (fun j hj=>by
     rw [qf0 hk32,hP j hj]
     by_cases e:k=j
     ·subst e;simp
     ·have e2:¬ j=k:=fun h=>e h.symm
      simp [e,e2])
    refine ⟨p',?_,?_⟩
    ·rw [e1];simp
    ·simpa using e2
   ·rw [qad (by simp [h2]),hno (fun h=>h2 h.2)];exact ih placed o Ec hP
  ·rw [qad (qae h1),qad rfl,hno (fun h=>h1 h.1)];exact ih placed o Ec hP
theorem qmn {fu N:Nat} (hN:qm3 g N) (hfu:N+40≤fu) {rec:Vector Bool 32→GSearch→List Int→Option (List Int)} (hR:Rings g n x) (hn:n<32) (hO:OKO (qbk g) n out) (hP:qnh placed out):∀ (q r k:Nat),k+r=32→r<q→(∀ j,j<k→qoj (qbk g) n out j=true→qhz (qbk g) n out≠some j) →
 qb8 fu placed (qc1 out) rec q x (-1) k=qgn fu placed (qc1 out) rec x (optI (qhz (qbk g) n out))
 | 0,r,k,_,h,_=>absurd h Ec
 | q+1,0,k,hk,_,hno=>by
  rw [qb8,qad (qae Ec)];cases hc:qhz (qbk g) n out with
  | none=>rfl
  | some c =>
   have:=qe8 hc;exact absurd hc (hno c Ec this.2.1)
 | q+1,r+1,k,hk,hq,hno=>by
  have hk32:k<32:=by omega
  have ih:=fun h=>qmn hN hfu (rec:=rec) hR hn hO hP q r (k+1) Ec Ec h;have step:¬ Test g n x out placed k→(∀ j,j<k+1→qoj (qbk g) n out j=true→qhz (qbk g) n out≠some j):=fun ht j hj hcj he=>by
   by_cases e:j=k
   ·subst e;exact ht (Test.of_next hR hn hO hP he)
   ·exact hno j Ec hcj he
  rw [qb8,qag (qaf Ec)];simp only [qay (show (0:Int)≤(k:Int) by omega) (show (k:Int)<32 by omega),qaa,qxt hk32,qu7 hk32,qfo,qk3,wrs k Ec];by_cases h1:0<iat x.mark_ k
  ·have hnk:=(hR.mark k hk32).1 h1;rw [qag (qaf h1),hP k hk32];by_cases h2:k∈out
   ·rw [qaf h2,qad (c := !true) rfl];exact ih (step fun ht=>ht.2.1 h2)
   ·rw [qae h2,qag (c := !false) rfl];by_cases h3:iat x.ring k=(k:Int)
    ·rw [qag (by simp [h3])];obtain ⟨b,h4,h5⟩:=qqm (placed:=placed) hN (show N≤fu by omega) hR.same (y:=(k:Int)) fu 32 0 Ec Ec;have h4:q14 fu x (k:Int) placed=some b:=h4;rw [h4,qaa];cases hb:b with
     | true =>
      rw [qag rfl];have ht:Test g n x out placed k:=⟨hnk,h2,h3,h5.1 hb⟩;have hcand:=ht.cand hR hn hO hP;have hnext:qhz (qbk g) n out=some k:=by
       cases hc:qhz (qbk g) n out with
       | none=>rw [nextO_none.1 hc k hk32] at hcand;cases hcand
       | some c =>
        obtain ⟨c1,c2,c3⟩:=qe8 hc;rcases Nat.lt_trichotomy c k with h | h | h
        ·exact absurd hc (hno c h c2)
        ·rw [h]
        ·rw [c3 k h] at hcand;cases hcand
      rw [hnext];rfl
     | false =>
      rw [qad rfl];refine ih (step fun ht=>?_);rw [h5.2 ht.2.2.2] at hb;cases hb
    ·rw [qad (by simp [h3]),qad rfl];exact ih (step fun ht=>h3 ht.2.2.1)
  ·rw [qad (qae h1),qad rfl];exact ih (step fun ht=>h1 ((hR.mark k hk32).2 ht.1))
theorem qmo {fu N:Nat} (hN:qm3 g N) (hfu:N+40≤fu) (hR:Rings g n x) (hn:n<32):∀ (q k:Nat) (out:List Nat) (placed:Vector Bool 32),OKO (qbk g) n out→qnh placed out→k<q→32≤k+out.length →
 qb9 fu q placed x (qc1 out)=some (qc1 (qmk (qbk g) n k out))
 | 0,k,out,placed,_,_,h,_=>absurd h Ec
 | q+1,k,out,placed,hO,hP,hq,hk=>by
  have hpre:=qf1 g;have h3:=qmn hN hfu (rec:=qb9 fu q) hR hn hO hP fu 32 0 Ec Ec (fun j hj=>absurd hj Ec);have h3:qb8 fu placed (qc1 out) (qb9 fu q) fu x (-1) 0=_:=h3;rw [qb9,h3,qgn];cases hc:qhz (qbk g) n out with
  | none =>
   rw [qag (by rfl)];cases k with
   | zero=>rfl
   | succ k=>simp [qmk,hc]
  | some c =>
   obtain ⟨hc32,hcand,_⟩:=qe8 hc;have ht:=Test.of_next hR hn hO hP hc;have hle:=hO.len;show (bif decide ((c:Int)<0) then _ else _)=_;rw [qad (qae Ec)];obtain ⟨p',e1,e2⟩:=qmm (rec:=qb9 fu q) hR hn ht.1 ht.2.2.1 fu 32 0 placed out Ec Ec Ec hP;have e1:qcm (qb9 fu q) x (c:Int) fu placed (qc1 out) 0=_:=e1;show qcm (qb9 fu q) x (c:Int) fu placed (qc1 out) 0=_;rw [e1];rw [Bi] at e2 ⊢;have hstep:=hO.step hpre hn hc;have hlen:=List.length_pos_of_mem (qqi hpre hc32);cases k with
   | zero=>rw [hO.full Ec] at hc;cases hc
   | succ k =>
    have:=qmo hN hfu hR hn q k (out++qxs (qbk g) c) p' hstep e2 Ec (by rw [Xp];omega);rw [qmk,hc];exact this
end
theorem qtd {g:GGraph} {s:Nat} (hs:s<32) (h:qhx g (s:Int)=true):∀ k,qbk g s k=true→bat g.known k=true:=by
 intro k hk;have h1:=(readyZ_iff.1 h).2 k (Xs _) (qro (pathB_iff.1 hk) hs);refine h1 ?_;unfold qom;rw [if_pos Ec];exact (qqk (qro (pathB_iff.1 hk) hs)).2 (pathB_iff.1 hk)
theorem qxw {fu N:Nat} {g:GGraph} (hN:qm3 g N) (hfu:N+80≤fu) (x:Int):qn1 fu g x=some (qwf g x):=by
 unfold qn1 qwf;rw [q0d hN Ec,qaa];cases hr:qhx g x with
 | false=>rw [qag (c := !false) rfl,if_neg (by simp)]
 | true =>
  rw [qad (c := !true) rfl,if_pos rfl,qaa];obtain ⟨hx,_⟩:=readyZ_iff.1 hr;obtain ⟨s,hs,rfl⟩:∃ s:Nat,s<32∧x=s:=⟨x.toNat,by omega,by omega⟩;have hkn:=qtd hs hr;obtain ⟨x',l',h1,h2,h3,h4,h5⟩:=q0h hN (show N+40≤fu by omega) hs;rw [h1,qaa];have hself:qbk g s s=true:=(qf1 g).refl s hs;have hR:Rings g s x':=⟨h2,hkn,fun k hk=>by rw [h3 k hk,qf2 hkn hself,pathB_iff],h4,fun k hk hp=>by
   obtain ⟨r,e1,e2,e3,e4⟩:=h5 k hk ((qf2 hkn hself).2 (pathB_iff.1 hp))
   have hnr:qbk g s r=true:=pathB_iff.2 ((pathB_iff.1 hp).trans ((qf2 hkn hp).1 e2))
   refine ⟨r,e1,(qf2 hkn hp).1 e2,(qf2 hkn hnr).1 e3,fun w hw1 hw2=>e4 w ((qf2 hkn hp).2 hw1) ?_⟩
   exact (qf2 hkn (pathB_iff.2 ((pathB_iff.1 hp).trans hw1))).2 hw2⟩
  exact qmo hN Ec hR hs fu 32 [] (Zr.zd:Vector Bool 32) OKO.nil (fun k _=>by rw [qnf];simp) Ec (by simp)
abbrev B5 := @Bool.false_and
def qdd (c:GCase):Bool :=
 bif c.begun then qao c.ops&&qaq c.deps
 else !c.fixed&&((c.ops.length:Int)==0&&((c.deps.length:Int)==0&&(decide (c.told=(Zr.zd:Vector Bool 6))&&(decide (c.known=(Zr.zd:Vector Bool 6))&&(decide (c.has=(Zr.zd:Vector Bool 4))&&decide (c.values=(Zr.zd:Vector Int 4)))))))
theorem qiw {fu:Nat} (c:GCase):qfn fu c=some (qdd c):=by
 unfold qfn qdd qb6 qfm;simp only [qaa];cases c.begun
 ·generalize (!c.fixed)=b1;generalize ((c.ops.length:Int)==0)=b2;generalize ((c.deps.length:Int)==0)=b3;generalize decide (c.told=(Zr.zd:Vector Bool 6))=b4;generalize decide (c.known=(Zr.zd:Vector Bool 6))=b5;generalize decide (c.has=(Zr.zd:Vector Bool 4))=b6;cases b1<;>cases b2<;>cases b3<;>cases b4<;>cases b5<;>cases b6<;>rfl
 ·generalize qao c.ops=b1;cases b1<;>rfl
def qmp (has:Nat→Bool) (s:Int):List GOp→Nat→Bool
 | [],_=>true
 | o::t,k=>bif (qb7 o.key==s && !has k) then false else qmp has s t (k+1)
def qco {n:Nat} (v:Vector Bool n) (k:Nat):Bool:=v[k]?.getD false
theorem qgy {n:Nat} (v:Vector Bool n) (k:Nat) (h:k<n):qa3 v (k:Int)=some (qco v k):=by
 unfold qa3 qco;rw [if_pos (Bj k)];simp [h]
theorem qot {c:GCase} {s:Int} (hc:c.ops.length≤4):∀ (n m k:Nat),c.ops.length=k+m→m<n→qem c s n k=some (qmp (qco c.has) s (c.ops.drop k) k)
 | 0,m,k,_,h=>absurd h Ec
 | n+1,0,k,hk,_=>by
  rw [qem,qad (qae Ec),List.drop_of_length_le Ec];rfl
 | n+1,m+1,k,hk,hn=>by
  have hlt:k<c.ops.length:=by omega
  have hd:c.ops.drop k=c.ops[k]::c.ops.drop (k+1):=X3 hlt;have hx:c.ops[k]? = some c.ops[k]:=by simp
  have ih:=qot (s:=s) hc n m (k+1) Ec Ec;rw [qem,qag (qaf Ec),qa5,hx,hd];simp only [qaa,qmp];rw [qay Ec Ec,qgy c.has k Ec];simp only [qaa,qkz,qm8];rw [qc6 Ec Ec,show (k:Int)+1=((k+1:Nat):Int) from by omega,ih];cases (qb7 c.ops[k].key==s)<;>cases qco c.has k<;>rfl
def qd5 (c:GCase) (s:Int):Bool:=qmp (qco c.has) s c.ops 0
theorem qou {fu:Nat} {c:GCase} {s:Int} (hc:c.ops.length≤4) (hf:5≤fu):qss fu c s=some (qd5 c s):=qot hc fu c.ops.length 0 Ec Ec
theorem qte {has:Nat→Bool} {s:Int}:∀ (l:List GOp) (k:Nat),qah l s=false→qmp has s l k=true
 | [],_,_=>rfl
 | o::t,k,h=>by
  unfold qah at h;rw [List.any_cons,Bool.or_eq_false_iff] at h;rw [qmp,h.1,qad (by rfl)];exact qte t (k+1) h.2
def qov (c:GCase) (id:Int) (k:Nat):List GFrame :=
 bif c.fixed then bif !qco c.known k || !qd5 c (ofZ k) then [⟨3,k,id,c.ops,c.deps,[],[]⟩] else []
 else bif qah c.ops (ofZ k) && !qco c.told k then [⟨1,k,id,c.ops,[],[],[]⟩] else []
def qix (c:GCase) (id:Int):Nat→Nat→List GFrame
 | 0,_=>[]
 | m+1,k=>qov c id k++qix c id m (k+1)
theorem qu9 (c:GCase) (id:Int) (k:Nat):(qov c id k).length≤1:=by
 unfold qov;cases c.fixed<;>simp only [cond_true,cond_false]
 ·cases (qah c.ops (ofZ k) && !qco c.told k)<;>simp
 ·cases (!qco c.known k || !qd5 c (ofZ k))<;>simp
theorem qqn {c:GCase} {id:Int}:∀ (m k:Nat) (f:GFrame),f∈qix c id m k→f.ops=c.ops
 | 0,k,f,h=>by simp [qix] at h
 | m+1,k,f,h=>by
  rw [qix,List.mem_append] at h;rcases h with h | h
  ·unfold qov at h;cases hfx:c.fixed<;>rw [hfx] at h<;>simp only [cond_true,cond_false] at h
   ·cases hb:(qah c.ops (ofZ k) && !qco c.told k)<;>rw [hb] at h<;>simp at h;rw [h]
   ·cases hb:(!qco c.known k || !qd5 c (ofZ k))<;>rw [hb] at h<;>simp at h;rw [h]
  ·exact qqn m (k+1) f h
theorem qqo {c:GCase} {id:Int}:∀ (m k:Nat),(qix c id m k).length≤m
 | 0,k=>by simp [qix]
 | m+1,k=>by
  rw [qix,List.length_append];have:=qu9 c id k;have:=qqo (c:=c) (id:=id) m (k+1);omega
theorem appF {l:List GFrame} {f:GFrame} (h:l.length≤6):app l [f]=some (l++[f]):=qbs (by
 have:Rep.bytes GFrame=120:=rfl
 rw [this]
 simp
 omega)
theorem qow {fu:Nat} {c:GCase} {id:Int} (hc:c.ops.length≤4) (hf:5≤fu):∀ (n m k:Nat) (l:List GFrame),k+m=6→m<n→l.length≤k→qdw fu c id n l k=some (l++qix c id m k)
 | 0,m,k,l,_,h,_=>absurd h Ec
 | n+1,0,k,l,hk,_,_=>by
  rw [qdw,qad (qae Ec)];simp [qix]
 | n+1,m+1,k,l,hk,hn,hl=>by
  have ih:=fun l' hl'=>qow (id:=id) hc hf n m (k+1) l' Ec Ec hl';have hw:IntKind.wrap .i64 ((k:Int)+1)=((k+1:Nat):Int):=by rw [qc6 Ec Ec];omega
  rw [qdw,qag (qaf Ec),qix];simp only [qaa,qje,qhb,qjd,hw,appF (show l.length≤6 by omega),qgy c.told k Ec,qgy c.known k Ec,qay (show (0:Int)≤k by omega) (show (k:Int)<6 by omega),qou hc hf];unfold qov;have i0:=ih l Ec;have i1:=fun f=>ih (l++[f]) (by simp;omega);cases hfx:c.fixed
  ·cases ht:qah c.ops (ofZ k)
   ·simp only [Au,cond_true,cond_false,B5];rw [i0];simp
   ·cases hh:qco c.told k
    ·simp only [Au,cond_true,cond_false,Aa];rw [i1];simp;rfl
    ·simp only [Au,Af,cond_true,cond_false,Aa];rw [i0];simp
  ·cases hh:qco c.known k
   ·simp only [Au,Af,cond_true,cond_false,Bool.true_or];rw [i1];simp;rfl
   ·cases ht:qah c.ops (ofZ k)
    ·have hwh:qd5 c (ofZ k)=true:=qte c.ops 0 ht;simp only [Af,cond_true,cond_false,hwh,Bool.or_false];rw [i0];simp
    ·cases hwh:qd5 c (ofZ k)
     ·simp only [Au,Af,cond_true,cond_false,Bd];rw [i1];simp;rfl
     ·simp only [Af,cond_true,cond_false,Bool.or_false];rw [i0];simp
def q2i (c:GCase) (id:Int):Bool:=qdd c&&(c.begun&&(decide (0≤id∧id<32) && !qd4 c.deps id))
def qlh (c:GCase) (id:Int):List GFrame:=bif q2i c id then qix c id 6 0 else []
theorem qni {c:GCase} (h:qdd c=true) (hb:c.begun=true):c.ops.length≤4:=by
 unfold qdd at h;rw [hb] at h;simp only [cond_true,Xn] at h;exact (qdk h.1).2
theorem qox {fu:Nat} {c:GCase} {id:Int} (hf:7≤fu):qny fu c id=some (qlh c id):=by
 unfold qny qlh q2i qf7 qm9;rw [qiw];simp only [qaa];cases hg:qdd c
 ·rfl
 ·cases hb:c.begun
  ·rfl
  ·by_cases h0:id<0
   ·rw [qaf h0,qae (show ¬ (0≤id∧id<32) by omega)];rfl
   ·by_cases h1:id≥32
    ·rw [qae h0,qaf h1,qae (show ¬ (0≤id∧id<32) by omega)];rfl
    ·rw [qae h0,qae h1,qaf (show 0≤id∧id<32 by omega)];cases hh:qd4 c.deps id
     ·have:=qow (fu:=fu) (id:=id) (qni hg hb) Ec fu 6 0 [] Ec Ec (by simp);simpa using this
     ·rfl
theorem againC_small {c:GCase} {id:Int}:(qlh c id).length≤6∧∀ f∈qlh c id,f.ops.length≤4:=by
 unfold qlh;cases hs:q2i c id
 ·simp
 ·unfold q2i at hs;simp only [Xn] at hs;refine ⟨qqo 6 0,fun f hf=>?_⟩;rw [qqn 6 0 f hf];exact qni hs.1 hs.2.1
def q75 (ops:List GOp):GCase:=⟨true,false,ops,Zr.zd,Zr.zd,[],Zr.zd,Zr.zd⟩
def noC:GCase:=⟨false,false,[],Zr.zd,Zr.zd,[],Zr.zd,Zr.zd⟩
def qga (t:GTxn):GCase × List GFrame × Int :=
 bif decide (0≤t.id∧t.id<32) then bif qao t.ops then (q75 t.ops,qlh (q75 t.ops) t.id,0) else (noC,[],1) else (noC,[],2)
theorem appO {l:List GOp} (h:l.length≤4):app ([]:List GOp) l=some l:=by
 rw [qbs]
 ·simp
 ·have:Rep.bytes GOp=24:=rfl;rw [this];simp;omega
theorem qrq {fu:Nat} {t:GTxn} (hf:7≤fu):qgm fu t=some (qga t):=by
 unfold qgm qga qeu qf8 qc8;by_cases h0:t.id<0
 ·rw [qaf h0,qae (show ¬ (0≤t.id∧t.id<32) by omega)];rfl
 ·by_cases h1:t.id≥32
  ·rw [qae h0,qaf h1,qae (show ¬ (0≤t.id∧t.id<32) by omega)];rfl
  ·rw [qae h0,qae h1,qaf (show 0≤t.id∧t.id<32 by omega)];simp only [qaa,cond_false,cond_true];cases hg:qao t.ops
   ·rfl
   ·simp only [Af,cond_false,cond_true];rw [appO (qdk hg).2];simp only [qaa];have:=qox (c:=q75 t.ops) (id:=t.id) hf;unfold q75 at this ⊢;erw [this];rfl
def qdl (c:GCase):List Int × Bool:=bif c.begun&&(qdd c&&(qd5 c 0&&qd5 c 1)) then (c.values.toList.take c.ops.length,true) else ([],false)
theorem qpn {fu:Nat} {c:GCase} (hf:7≤fu):qdh fu c=some (qdl c):=by
 unfold qdh qdl qch qc2;rw [qiw];simp only [qaa];cases hb:c.begun
 ·rfl
 ·cases hg:qdd c
  ·rfl
  ·have hl:=qni hg hb;obtain ⟨fu,rfl⟩:∃ n,fu=n+3:=⟨fu-3,by omega⟩;simp only [Af,cond_true,cond_false,Aa];rw [qaz,qou hl Ec];simp only [qaa];rw [qag (by rfl)];cases qd5 c 0
   ·rfl
   ·rw [qad (by rfl),qaz,show IntKind.wrap .i64 (0+1)=1 from by rw [qc6 Ec Ec];rfl,qou hl Ec];simp only [qaa];rw [qag (by rfl)];cases qd5 c 1
    ·rfl
    ·rw [qad (by rfl),qaz,show IntKind.wrap .i64 (1+1)=2 from by rw [qc6 Ec Ec];rfl,qad (by rfl)];have hv:c.values.toList.length=4:=by simp
     have hcut:qr8 c.values.toList none (some (c.ops.length:Int))=some (c.values.toList.take c.ops.length):=by
      unfold qr8 qe0;rw [if_pos (by simp;omega)];simp
     rw [hcut];simp only [qaa,qbu];rw [qbs]
     ·rfl
     ·have:Rep.bytes Int=8:=rfl;rw [this];simp;omega
def eat (v:Vector GEntry 32) (k:Nat):GEntry:=v[k]?.getD Zr.zd
theorem q0j {v:Vector GEntry 32} {k:Nat} (hk:k<32):v[k]=eat v k:=by simp [eat,hk]
theorem qva {v:Vector GEntry 32} {k:Nat} (hk:k<32):qa3 v (k:Int)=some (eat v k):=by rw [qrn hk,q0j hk]
theorem q4v {v u:Vector GEntry 32} (h:∀ k,k<32→eat v k=eat u k):v=u:=by
 refine Vector.ext fun k hk=>?_;rw [q0j hk,q0j hk];exact h k hk
theorem q4w {v:Vector GEntry 32} {k:Nat} (hk:¬ k<32):eat v k=Zr.zd:=by simp [eat,hk]
def qqp (e:GEntry):Bool:=((e.ops.length:Int)==0)&&(((e.first.length:Int)==0)&&(((e.deps.length:Int)==0)&&(((e.at_.length:Int)==0)&&((e.values.length:Int)==0))))
def qwg (m:Int):Int→List Int→Bool
 | _,[]=>true
 | b,k::t=>decide (b<k∧k<m)&&qwg m k t
def qtf (k:Int) (e:GEntry):Bool:=qao e.ops&&(qaq e.first&&(qaq e.deps&&(!qd4 e.first k&&(!qd4 e.deps k&&(!(e.state==1&&decide ((e.deps.length:Int)>0))&&(!(e.state != 3&&decide ((e.at_.length:Int)>0))&&(!((e.at_.length:Int) != (e.values.length:Int))&&qwg e.ops.length (-1) e.at_)))))))
def qqq (k:Int) (e:GEntry):Bool:=bif e.state==0 then qqp e else qtf k e
def qf3 (k:Int) (e:GEntry) (there:Bool):Bool:=decide (0≤e.state∧e.state≤3)&&(((e.state==3)==there)&&qqq k e)
structure GoodN (s:GNode):Prop where
 nodup:s.order.Nodup
 inr:∀ m∈s.order,0≤m∧m<32
 ent:∀ k:Nat,k<32→qf3 k (eat s.entries k) (decide ((k:Int)∈s.order))=true
open Classical in
noncomputable def qvb (s:GNode):Bool:=decide (GoodN s)
theorem goodN_iff {s:GNode}:qvb s=true↔GoodN s:=by simp [qvb]
structure ESz (e:GEntry) (N:Nat):Prop where
 ops:e.ops.length<N∧e.ops.length*24≤140737488351232
 first:e.first.length<N∧e.first.length≤17592186043904
 deps:e.deps.length<N∧e.deps.length≤17592186043904
 at_:e.at_.length<N∧e.at_.length≤17592186043904
 values:e.values.length<N∧e.values.length≤17592186043904
structure NSz (s:GNode) (N:Nat):Prop where
 order:s.order.length<N∧s.order.length≤17592186043904
 ent:∀ k,ESz (eat s.entries k) N
theorem qj1 {y69:Int} {rec70:Int→Option Bool} {e:GEntry} (ha:e.at_.length≤17592186043904):∀ (n m k:Nat) (b:Int),e.at_.length=k+m→m<n → -1≤b→(k=0→b = -1)→(∀ j,k=j+1→e.at_[j]? = some b) →
 qbg y69 rec70 e n k=bif qwg e.ops.length b (e.at_.drop k) then qcw y69 rec70 else some false
 | 0,m,k,b,_,h,_,_,_=>absurd h Ec
 | n+1,0,k,b,hk,_,_,_,_=>by
  rw [qbg,qad (qae Ec),List.drop_of_length_le Ec];rfl
 | n+1,m+1,k,b,hk,hn,hb,hb0,hbj=>by
  have hlt:k<e.at_.length:=by omega
  have hx:e.at_[k]? = some e.at_[k]:=Xl hlt;have ih:=qj1 (y69:=y69) (rec70:=rec70) ha n m (k+1) e.at_[k] Ec Ec;rw [qbg,qag (qaf Ec),qa5,hx,qaa,X3 hlt];simp only [qdi,qhg,wrs k Ec,qwg];generalize hg:e.at_[k]=x at ih hx;by_cases h1:x<0
  ·rw [qag (qaf h1),qae (show ¬ (b<x∧x<(e.ops.length:Int)) by omega)];rfl
  ·rw [qad (qae h1)];have ih:=ih Ec Ec (fun j hj=>by rw [show j=k from by omega];exact hx);by_cases h2:x≥(e.ops.length:Int)
   ·rw [qag (qaf h2),qae (show ¬ (b<x∧x<(e.ops.length:Int)) by omega)];rfl
   ·rw [qad (qae h2)];cases k with
    | zero =>
     rw [qad (qae Ec),qaf (show b<x∧x<(e.ops.length:Int) by have:=hb0 rfl;omega),Aa,← ih];rfl
    | succ j =>
     rw [qag (qaf Ec),show IntKind.wrap .i64 (((j+1:Nat):Int)-1)=(j:Int) by rw [qc6 Ec Ec];omega,qa5,hbj j rfl,qaa];by_cases h3:b≥x
     ·rw [qaf h3,qae (show ¬ (b<x∧x<(e.ops.length:Int)) by omega)];rfl
     ·rw [qae h3,qaf (show b<x∧x<(e.ops.length:Int) by omega),Aa,← ih];rfl
theorem q0k {e:GEntry} {N:Nat} (h:ESz e N):decide ((IntKind.wrap .i64 ((IntKind.wrap .i64 ((IntKind.wrap .i64 ((IntKind.wrap .i64 ((e.ops.length:Int)+(e.first.length:Int)))+(e.deps.length:Int)))+(e.at_.length:Int)))+(e.values.length:Int)))>0) = !qqp e:=by
 obtain ⟨⟨_,h1⟩,⟨_,h2⟩,⟨_,h3⟩,⟨_,h4⟩,⟨_,h5⟩⟩:=h;unfold qqp;generalize e.ops.length=a1 at *;generalize e.first.length=a2 at *
 generalize e.deps.length=a3 at *;generalize e.at_.length=a4 at *;generalize e.values.length=a5 at *;rw [qc6 (x:=(a1:Int)+a2) Ec Ec,qc6 (x:=(a1:Int)+a2+a3) Ec Ec,qc6 (x:=(a1:Int)+a2+a3+a4) Ec Ec,qc6 Ec Ec];by_cases h:(a1:Int)+a2+a3+a4+a5>0
 ·rw [qaf h];symm;rw [B3];apply Dp.2;simp only [ne_eq,Xn,beq_iff_eq];omega
 ·rw [qae h];symm;rw [Bool.not_eq_false'];simp only [Xn,beq_iff_eq];omega
theorem qtg {fu N k:Nat} {e:GEntry} {there:Bool} (h:ESz e N) (hfu:N≤fu) {rec:Int→Option Bool} :
 (bif decide (e.state<0) then qb1 fu k rec e true else (bif decide (e.state>3) then qb1 fu k rec e true else qb1 fu k rec e (!((e.state==3)==there))))=bif qf3 k e there then qcw k rec else some false:=by
 unfold qf3;by_cases h1:e.state<0
 ·rw [qag (qaf h1),qae (show ¬ (0≤e.state∧e.state≤3) by omega)];rfl
 ·rw [qad (qae h1)];by_cases h2:e.state>3
  ·rw [qag (qaf h2),qae (show ¬ (0≤e.state∧e.state≤3) by omega)];rfl
  ·rw [qad (qae h2),qaf (show 0≤e.state∧e.state≤3 by omega),Aa];unfold qb1;cases h3:((e.state==3)==there)
   ·rfl
   ·rw [Aa,qad (c := !true) rfl];unfold qhi qqq;cases h0:(e.state==0)
    ·rw [cond_false,cond_false];have hl:=qj1 (y69:=k) (rec70:=rec) h.at_.2 fu e.at_.length 0 (-1) Ec (by have:=h.at_.1;omega) Ec Ec Ec;have hl:qbg k rec e fu 0=bif qwg e.ops.length (-1) e.at_ then qcw k rec else some false:=hl;simp only [qaa,qa6,qhh,hl];unfold qtf;generalize qao e.ops=b1;generalize qaq e.first=b2
     generalize qaq e.deps=b3;generalize qd4 e.first k=b4
     generalize qd4 e.deps k=b5;generalize decide ((e.deps.length:Int)>0)=b7;generalize decide ((e.at_.length:Int)>0)=b9;generalize ((e.at_.length:Int) != (e.values.length:Int))=b10;cases b1
     ·rfl
     cases b2
     ·rfl
     cases b3
     ·rfl
     cases b4
     case true=>rfl
     cases b5
     case true=>rfl
     generalize (e.state==1)=b6;generalize (e.state != 3)=b8;cases b6<;>cases b7<;>cases b8<;>cases b9<;>cases b10<;>rfl
    ·rw [cond_true,cond_true,q0k h];cases qqp e<;>rfl
theorem qj2 {fu N:Nat} {s:GNode} {d:Vector Bool 32} (h:NSz s N) (hfu:N≤fu):∀ (n m k:Nat),k+m=32→m<n→∃ b,qbv fu s d n k=some b∧(b=true↔∀ j,k≤j→j<32→qf3 j (eat s.entries j) (bat d j)=true)
 | 0,m,k,_,h=>absurd h Ec
 | n+1,0,k,hk,_=>⟨true,by rw [qbv,qad (qae Ec)],by simp only [true_iff];intro j h1 h2;omega⟩
 | n+1,m+1,k,hk,hn=>by
  have hk32:k<32:=by omega
  obtain ⟨b,h1,h2⟩:=qj2 (d:=d) h hfu n m (k+1) Ec Ec;rw [qbv,qag (qaf Ec),qva hk32,qaa,qaa,qay Ec Ec,qaa,qu7 hk32,qaa,qtg (h.ent k) hfu];cases he:qf3 k (eat s.entries k) (bat d k) with
  | false =>
   refine ⟨false,rfl,?_⟩;simp only [A0,false_iff];intro h;rw [h k (Xx _) hk32] at he;cases he
  | true =>
   refine ⟨b,?_,?_⟩
   ·rw [cond_true,qcw,wrs k Ec];exact h1
   ·rw [h2];constructor
    ·intro h j hj;by_cases e:j=k
     ·subst e;intro _;exact he
     ·exact h j Ec
    ·intro h j hj;exact h j Ec
theorem qvc {k:Int} {e:GEntry} {t:Bool} (h:qf3 k e t=true):(e.state=3↔t=true):=by
 unfold qf3 at h;simp only [Xn] at h;have h1:=h.2.1;cases t
 ·simp at h1;simp [h1]
 ·simp at h1;simp [h1]
theorem qj3 {fu N:Nat} {s:GNode} (h:NSz s N) (hfu:N+40≤fu):∀ (n m k:Nat) (d:Vector Bool 32),s.order.length=k+m→m<n→(s.order.take k).Nodup→(∀ x∈s.order.take k,(0≤x∧x<32))→(∀ j,j<32→bat d j=decide ((j:Int)∈s.order.take k)) →
 ∃ b,qbe fu s n d k=some b∧(b=true↔GoodN s)
 | 0,m,k,d,_,h,_,_,_=>absurd h Ec
 | n+1,0,k,d,hk,_,h1,h2,h3=>by
  have hlen:=h.order.2;rw [qbe,qad (qae Ec)];rw [List.take_of_length_le Ec] at h1 h2 h3;obtain ⟨b,e1,e2⟩:=qj2 (d:=d) h (show N≤fu by omega) fu 32 0 Ec Ec;refine ⟨b,e1,?_⟩;rw [e2];constructor
  ·intro h;exact ⟨h1,h2,fun k hk=>by rw [← h3 k hk];exact h k (Xs _) hk⟩
  ·intro h j _ hj;rw [h3 j hj];exact h.ent j hj
 | n+1,m+1,k,d,hk,hn,h1,h2,h3=>by
  have hlt:k<s.order.length:=by omega
  have hx:s.order[k]? = some s.order[k]:=Xl hlt;have hmem:s.order[k]∈s.order:=A1 hlt;have htk:s.order.take (k+1)=s.order.take k++[s.order[k]]:=(List.take_append_getElem hlt).symm;have hlen:=h.order.2;rw [qbe,qag (qaf Ec),qa5,hx,qaa];have ih:=qj3 h hfu n m (k+1);rw [htk] at ih;generalize hg:s.order[k]=x at *;rcases qgx x with ⟨y,hy,rfl⟩ | hno
  ·rw [qad (qae Ec),qad (qae Ec),qay Ec Ec,qaa,qu7 hy,qaa];cases hb:bat d y with
   | true =>
    refine ⟨false,rfl,?_⟩;simp only [A0,false_iff];intro hG;have hin:(y:Int)∈s.order.take k:=by rw [h3 y hy] at hb;simpa using hb
    have hnd:=hG.nodup;rw [← List.take_append_drop (k+1) s.order,htk] at hnd;have:=(Bw.1 (Bw.1 hnd).1).2.2 _ hin _ (Xu.2 rfl);exact this rfl
   | false =>
    have hnin:(y:Int)∉s.order.take k:=by rw [h3 y hy] at hb;simpa using hb
    rw [cond_false,qaa,qva hy,qaa];cases h3s:((eat s.entries y).state != 3) with
    | true =>
     refine ⟨false,rfl,?_⟩;simp only [A0,false_iff];intro hG;have:=(qvc (hG.ent y hy)).2 (by simpa using hmem);rw [this] at h3s;cases h3s
    | false =>
     unfold qcv qhf qhe;rw [cond_false,qay Ec Ec,qaa,qu7 hy,qaa,qgh hy,qaa,qaa,wrs k Ec];refine ih (d.set y true) Ec Ec ?_ ?_ ?_
     ·refine Bw.2 ⟨h1,by simp,fun a ha b hb=>?_⟩;rw [Xu.1 hb];rintro rfl;exact hnin ha
     ·intro z hz;rcases Xr.1 hz with hz | hz
      ·exact h2 z hz
      ·rw [Xu.1 hz];omega
     ·intro j hj;rw [qf0 hy];by_cases e:y=j
      ·subst e;simp
      ·rw [if_neg e,h3 j hj];congr 1;simp only [Xr,Xu,eq_iff_iff];constructor
       ·exact .inl
       ·rintro (h | h)
        ·exact h
        ·omega
  ·have:qcv d k (qbe fu s n) x true=some false:=rfl;refine ⟨false,?_,?_⟩
   ·by_cases h0:x<0
    ·rw [qag (qaf h0)];rfl
    ·rw [qad (qae h0),qag (qaf Ec)];rfl
   ·simp only [A0,false_iff];intro hG;exact hno (hG.inr x hmem)
theorem qth {fu N:Nat} {s:GNode} (h:NSz s N) (hfu:N+40≤fu):qij fu s=some (qvb s):=by
 unfold qij;rw [qaa];obtain ⟨b,h1,h2⟩:=qj3 h hfu fu s.order.length 0 (Zr.zd:Vector Bool 32) Ec (by have:=h.order.1;omega) (by simp) (by simp) (fun j _=>by rw [qnf];simp);have h1:qbe fu s fu (Zr.zd:Vector Bool 32) 0=some b:=h1;rw [h1];congr 1;rw [Ar,h2,goodN_iff]
def qti (s:GNode) (id:Int) (ops:List GOp) (sh:Int) (k:Nat):Bool:=(k:Int) != id&&((eat s.entries k).state != 0&&qfg (eat s.entries k).ops ops sh)
def qwh (s:GNode) (id:Int) (ops:List GOp) (sh:Int):List Nat:=(List.range 32).filter (qti s id ops sh)
def qli (s:GNode) (id:Int) (ops:List GOp) (sh:Int):List Int:=qc1 (qwh s id ops sh)
theorem q0l {p:Nat→Bool} {k m:Nat}:(List.range' k (m+1)).filter p=(bif p k then [k] else [])++(List.range' (k+1) m).filter p:=by
 rw [List.range'_succ,Dv];cases p k<;>rfl
theorem qiy {s:GNode} {id:Int} {ops:List GOp} {sh:Int}:∀ (n m k:Nat) (l:List Int),k+m=32→m<n→l.length≤k→qav s id ops sh n l k=some (l++qc1 ((List.range' k m).filter (qti s id ops sh)))
 | 0,m,k,l,_,h,_=>absurd h Ec
 | n+1,0,k,l,hk,_,_=>by rw [qav,qad (qae Ec)];simp [qc1]
 | n+1,m+1,k,l,hk,hn,hl=>by
  have hk32:k<32:=by omega
  have hb:Rep.bytes Int=8:=rfl;have ih:=fun l hl=>qiy (s:=s) (id:=id) (ops:=ops) (sh:=sh) n m (k+1) l Ec Ec hl;rw [qav,qag (qaf Ec),qva hk32,qaa,qaa,qaa,q0l];simp only [qdp,qev,wrs k Ec];have no:∀ b:Bool,b=false→(bif b then (app l [(k:Int)]).bind fun l44=>qav s id ops sh n l44 ((k+1:Nat):Int) else qav s id ops sh n l ((k+1:Nat):Int))=some (l++qc1 ((List.range' (k+1) m).filter (qti s id ops sh))):=fun b hb=>by
   rw [hb,cond_false,ih l Ec]
  have yes:(app l [(k:Int)]).bind (fun l44=>qav s id ops sh n l44 ((k+1:Nat):Int))=some (l++qc1 (k::(List.range' (k+1) m).filter (qti s id ops sh))):=by
   rw [qbs (by rw [hb];simp only [A2];omega),qaa,ih _ (by simp;omega)];simp [qc1]
  unfold qti at no yes ⊢;cases h1:((k:Int) != id)
  ·exact no false rfl
  ·cases h2:((eat s.entries k).state != 0)
   ·exact no false rfl
   ·cases h3:qfg (eat s.entries k).ops ops sh
    ·exact no false rfl
    ·exact yes
theorem qlj {fu:Nat} {s:GNode} {id:Int} {ops:List GOp} {sh:Int} (hfu:40≤fu):qe4 fu s id ops sh=some (qli s id ops sh):=by
 unfold qe4;have h:=qiy (s:=s) (id:=id) (ops:=ops) (sh:=sh) fu 32 0 [] Ec Ec (by simp);have h:qav s id ops sh fu [] 0=some ([]++qc1 ((List.range' 0 32).filter (qti s id ops sh))):=h;rw [h,qli,qwh,List.range_eq_range'];rfl
def qmq (s:GNode):GGraph:={ known:=Vector.ofFn fun k:Fin 32=>decide ((eat s.entries k.val).state≥2),deps:=Vector.ofFn fun k:Fin 32=>(eat s.entries k.val).deps }
theorem qxx {s:GNode} {k:Nat} (hk:k<32):bat (qmq s).known k=decide ((eat s.entries k).state≥2):=by
 rw [← qwd hk];simp [qmq]
theorem qlk {s:GNode} {k:Nat} (hk:k<32):qa9 (qmq s) k=(eat s.entries k).deps:=by
 simp [qmq,qa9,hk]
theorem qxy {g:GGraph} {v:Vector (List Int) 32} {k j:Nat} {x:List Int} (hk:k<32):qa9 { g with deps:=v.set k x } j=if k=j then x else qa9 { g with deps:=v } j:=by
 unfold qa9;by_cases hj:j<32
 ·simp only [hj,dite_true,Vector.getElem_set]
 ·have:k≠j:=by omega
  simp [hj,this]
theorem q0m {g h:GGraph} (h1:∀ k,k<32→bat g.known k=bat h.known k) (h2:∀ k,k<32→qa9 g k=qa9 h k):g=h:=by
 obtain ⟨a,b⟩:=g;obtain ⟨c,d⟩:=h;have e1:a=c:=q0a h1;have e2:b=d:=Vector.ext fun k hk=>by
  have:=h2 k hk;simpa [qa9,hk] using this
 rw [e1,e2]
def q0n (s:GNode) (G:GGraph):Prop:=∀ k,k<32→bat G.known k=decide ((eat s.entries k).state≥2)∧qa9 G k=(eat s.entries k).deps
theorem q0o (s:GNode):q0n s (qmq s):=fun _ hk=>⟨qxx hk,qlk hk⟩
theorem qiz {s:GNode} {G:GGraph} (hG:q0n s G):∀ (n m k:Nat) (g:GGraph),k+m=32→m<n→(∀ j,j<k→bat g.known j=bat G.known j∧qa9 g j=qa9 G j)→qb2 s n g k=some G
 | 0,m,k,g,_,h,_=>absurd h Ec
 | n+1,0,k,g,hk,_,hg=>by
  rw [qb2,qad (qae Ec),qaa];exact congrArg some (q0m (fun j hj=>(hg j Ec).1) fun j hj=>(hg j Ec).2)
 | n+1,m+1,k,g,hk,hn,hg=>by
  have hk32:k<32:=by omega
  rw [qb2,qag (qaf Ec),qva hk32,qaa,qaa,qay Ec Ec,qaa,qu7 hk32,qaa,qgh hk32,qaa,qaa,qaa,q74 hk32,qaa,qgh hk32,qaa,qaa,wrs k Ec];refine qiz hG n m (k+1) _ Ec Ec fun j hj=>?_;have hj32:j<32:=by omega
  refine ⟨?_,?_⟩
  ·show bat (g.known.set k _) j=_;rw [qf0 hk32];by_cases e:k=j
   ·subst e;rw [if_pos rfl,(hG k hk32).1]
   ·rw [if_neg e];exact (hg j Ec).1
  ·rw [qxy hk32];by_cases e:k=j
   ·subst e;rw [if_pos rfl,(hG k hk32).2]
   ·rw [if_neg e];exact (hg j Ec).2
theorem qrr {fu:Nat} {s:GNode} (hfu:40≤fu):qji fu s=some (qmq s):=qiz (q0o s) fu 32 0 _ Ec Ec fun j h=>by omega
theorem qi0 {f:GFrame} (h:qak f=0):(1≤f.kind∧f.kind≤5)∧(0≤f.node∧f.node<6)∧(0≤f.id∧f.id<32):=by
 unfold qak at h;split at h
 ·cases h
 ·split at h
  ·cases h
  ·omega
theorem qbo {α : Type} {n:Nat} {v:Vector α n} {j:Int} {x : α} (h0:0≤j) (h1:j<n):qer v j x=some (v.setIfInBounds j.toNat x):=by
 unfold qer;rw [if_pos ⟨h0,h1⟩]
theorem qrs {n:Nat} {v:Vector Bool n} {j:Int} (h0:0≤j) (h1:j<n):qa3 v j=some (qco v j.toNat):=by
 have:=qgy v j.toNat Ec;rw [show ((j.toNat:Nat):Int)=j from by omega] at this;exact this
theorem qwi {n:Nat} {v:Vector Int n} {j:Int} (h0:0≤j) (h1:j<n):qa3 v j=some (v[j.toNat]?.getD 0):=by
 unfold qa3;rw [if_pos h0];have:j.toNat<n:=by omega
 simp [this]
def qxz (b:Bool):Int:=bif b then 1 else 0
def qtz (v:Vector Bool 6) (k:Nat):Int:=qxz (qco v k)+qxz (qco v (k+1))+qxz (qco v (k+2))
def qey (c:GCase):Bool:=(!qah c.ops 0||decide (qtz c.told 0≥2))&&(!qah c.ops 1||decide (qtz c.told 3≥2))
theorem qmr {c:GCase} {rec:Int→Option Bool} {s:Nat} (hs:s<2) {n:Nat}:qbn c s rec (n+4) 0 0=bif (qah c.ops s && !decide (qtz c.told (3*s)≥2)) then some false else rec (IntKind.wrap .i64 ((s:Int)+1)):=by
 have h3:IntKind.wrap .i64 ((s:Int)*3)=(s:Int)*3:=qc6 Ec Ec;have step:∀ (m:Nat) (y:Int) (k:Nat),k<3→0≤y→y≤10→qbn c s rec (m+1) y k=qbn c s rec m (y+qxz (qco c.told (3*s+k))) ((k+1:Nat):Int):=by
  intro m y k hk hy hy2;have hj:IntKind.wrap .i64 ((s:Int)*3+(k:Int))=((3*s+k:Nat):Int):=by rw [qc6 Ec Ec];omega
  rw [qbn,qag (qaf Ec),h3,hj,qay Ec Ec,qaa,qgy c.told (3*s+k) Ec,qaa];simp only [qil];rw [show IntKind.wrap .i64 ((k:Int)+1)=((k+1:Nat):Int) from by rw [qc6 Ec Ec];omega,qc6 Ec Ec];cases qco c.told (3*s+k)
  ·simp [qxz]
  ·rfl
 have h1:∀ b,0≤qxz b∧qxz b≤1:=fun b=>by cases b<;>decide
 have e0:=step (n+3) 0 0 Ec Ec Ec;have b0:=h1 (qco c.told (3*s+0));have b1:=h1 (qco c.told (3*s+1));have e1:=step (n+2) (0+qxz (qco c.told (3*s+0))) 1 Ec Ec Ec;have e2:=step (n+1) (0+qxz (qco c.told (3*s+0))+qxz (qco c.told (3*s+1))) 2 Ec Ec Ec;have e0:qbn c s rec (n+4) 0 0=_:=e0;rw [e0];have e1:qbn c s rec (n+3) _ ((0+1:Nat):Int)=_:=e1;rw [e1];have e2:qbn c s rec (n+2) _ ((1+1:Nat):Int)=_:=e2;rw [e2,qbn,qad (qae Ec),qaa];have hc:qtz c.told (3*s)=0+qxz (qco c.told (3*s+0))+qxz (qco c.told (3*s+1))+qxz (qco c.told (3*s+2)):=by unfold qtz;rw [Int.zero_add];rfl
 rw [← hc];cases qah c.ops s
 ·rfl
 ·simp only [cond_true,Aa,qim,qla];by_cases h:qtz c.told (3*s)≥2
  ·rw [qaf h,qae Ec];rfl
  ·rw [qae h,qaf Ec];rfl
theorem qx0 {fu:Nat} {c:GCase} (hf:7≤fu):qn3 fu c=some (qey c):=by
 obtain ⟨n,rfl⟩:∃ n,fu=n+4:=⟨fu-4,by omega⟩;unfold qn3 qey;have e0:=qmr (c:=c) (rec:=qbx (n+4) c (n+3)) (s:=0) Ec (n:=n);have e1:=qmr (c:=c) (rec:=qbx (n+4) c (n+2)) (s:=1) Ec (n:=n);have e0:qbn c 0 (qbx (n+4) c (n+3)) (n+4) 0 0=bif (qah c.ops 0 && !decide (qtz c.told 0≥2)) then some false else qbx (n+4) c (n+3) (IntKind.wrap .i64 (0+1)):=e0;have e1:qbn c 1 (qbx (n+4) c (n+2)) (n+4) 0 0=bif (qah c.ops 1 && !decide (qtz c.told 3≥2)) then some false else qbx (n+4) c (n+2) (IntKind.wrap .i64 (1+1)):=e1;have w1:IntKind.wrap .i64 (0+1)=1:=by rw [qc6 Ec Ec];rfl
 have w2:IntKind.wrap .i64 (1+1)=2:=by rw [qc6 Ec Ec];rfl
 rw [qbx,qag (by rfl),e0];cases hA:(qah c.ops 0 && !decide (qtz c.told 0≥2))
 ·rw [cond_false,w1,qbx,qag (by rfl),e1];cases hB:(qah c.ops 1 && !decide (qtz c.told 3≥2))
  ·rw [cond_false,w2,qbx,qad (by rfl)];revert hA hB;cases qah c.ops 0<;>cases qah c.ops 1<;>cases decide (qtz c.told 0≥2)<;>cases decide (qtz c.told 3≥2)<;>simp
  ·rw [cond_true];revert hB;cases qah c.ops 0<;>cases qah c.ops 1<;>cases decide (qtz c.told 0≥2)<;>cases decide (qtz c.told 3≥2)<;>simp
 ·rw [cond_true];revert hA;cases qah c.ops 0<;>cases qah c.ops 1<;>cases decide (qtz c.told 0≥2)<;>cases decide (qtz c.told 3≥2)<;>simp
def qb3 (sh:Int) (c:GCase) (k v:Int):GCase :=
 bif (decide (k<(c.ops.length:Int))&&(((idx c.ops k).map fun o=>qb7 o.key==sh).getD false && !qco c.has k.toNat)) then { c with has:=c.has.setIfInBounds k.toNat true,values:=c.values.setIfInBounds k.toNat v } else c
def qh0 (sh:Int):GCase→List Int→List Int→GCase
 | c,k::at_,v::vs=>qh0 sh (qb3 sh c k v) at_ vs
 | c,_,_=>c
theorem qll {sh:Int} {c:GCase} {k v:Int}:(qb3 sh c k v).ops=c.ops∧(qb3 sh c k v).fixed=c.fixed∧(qb3 sh c k v).begun=c.begun∧(qb3 sh c k v).deps=c.deps∧(qb3 sh c k v).told=c.told∧(qb3 sh c k v).known=c.known:=by
 unfold qb3;cases (decide (k<(c.ops.length:Int))&&(((idx c.ops k).map fun o=>qb7 o.key==sh).getD false && !qco c.has k.toNat))<;>exact ⟨rfl,rfl,rfl,rfl,rfl,rfl⟩
theorem doneL_same {sh:Int}:∀ {at_ vs:List Int} {c:GCase},(qh0 sh c at_ vs).ops=c.ops∧(qh0 sh c at_ vs).fixed=c.fixed∧(qh0 sh c at_ vs).begun=c.begun∧(qh0 sh c at_ vs).deps=c.deps∧(qh0 sh c at_ vs).told=c.told∧(qh0 sh c at_ vs).known=c.known
 | [],_,_=>by unfold qh0;exact ⟨rfl,rfl,rfl,rfl,rfl,rfl⟩
 | _::_,[],_=>by unfold qh0;exact ⟨rfl,rfl,rfl,rfl,rfl,rfl⟩
 | k::at_,v::vs,c=>by
  unfold qh0;have h1:=doneL_same (sh:=sh) (at_:=at_) (vs:=vs) (c:=qb3 sh c k v);have h2:=qll (sh:=sh) (c:=c) (k:=k) (v:=v);exact ⟨h1.1.trans h2.1,h1.2.1.trans h2.2.1,h1.2.2.1.trans h2.2.2.1,h1.2.2.2.1.trans h2.2.2.2.1,h1.2.2.2.2.1.trans h2.2.2.2.2.1,h1.2.2.2.2.2.trans h2.2.2.2.2.2⟩
structure AtOk (f:GFrame):Prop where
 len:f.at_.length=f.vals.length
 small:f.at_.length≤4
 mem:∀ n∈f.at_,0≤n∧n<4
theorem q0p {f:GFrame} (h:qak f=0):AtOk f:=by
 have:=qz1 h;obtain ⟨_,_,_,_,h1,h2,h3,_,_⟩:=this;exact ⟨h3.symm,h1,fun n hn=>by have:=h2 n hn;omega⟩
theorem qj4 {f:GFrame} (hf:AtOk f):∀ (n m k:Nat) (c:GCase),f.at_.length=k+m→m<n→c.ops.length≤4→c.fixed=true→qa7 f n c k=some (qh0 (ofZ f.node) c (f.at_.drop k) (f.vals.drop k),[],0)
 | 0,m,k,c,_,h,_,_=>absurd h Ec
 | n+1,0,k,c,hk,_,_,_=>by
  rw [qa7,qad (qae Ec),List.drop_of_length_le Ec,qaa];rfl
 | n+1,m+1,k,c,hk,hn,hc,hfx=>by
  have hlt:k<f.at_.length:=by omega
  have hlv:k<f.vals.length:=by have:=hf.len;omega
  have ih:=fun c h1 h2=>qj4 hf n m (k+1) c Ec Ec h1 h2;have hw:IntKind.wrap .i64 ((k:Int)+1)=((k+1:Nat):Int):=by have:=hf.small;rw [qc6 Ec Ec];omega
  rw [qa7,qag (qaf Ec),qa5,List.getElem?_eq_getElem hlt,qaa,qag hfx,List.drop_eq_getElem_cons hlt,List.drop_eq_getElem_cons hlv];have hx:=hf.mem f.at_[k] (List.getElem_mem _);simp only [qcy,qeh,hw,qh0];generalize f.at_[k]=x at hx;have hd:=qll (sh:=ofZ f.node) (c:=c) (k:=x) (v:=f.vals[k]);have ihd:=ih (qb3 (ofZ f.node) c x f.vals[k]) (by rw [hd.1];exact hc) (by rw [hd.2.1];exact hfx);by_cases h1:x<(c.ops.length:Int)
  ·obtain ⟨o,ho⟩:∃ o,idx c.ops x=some o:=by
    unfold idx;rw [if_pos hx.1];exact ⟨_,Xl Ec⟩
   rw [qag (qaf h1),ho,qaa,qaa,qaa];cases h2:(qb7 o.key==ofZ f.node)
   ·rw [← ihd];simp only [cond_false,qb3,ho,Xw,X1,h2,B5,Bool.and_false]
   ·rw [qag (by rfl),qay hx.1 hx.2,qaa,qrs hx.1 hx.2,qaa];cases h3:qco c.has x.toNat
    ·rw [← ihd];have e:qb3 (ofZ f.node) c x f.vals[k]={ c with has:=c.has.setIfInBounds x.toNat true,values:=c.values.setIfInBounds x.toNat f.vals[k] }:=by
      simp only [qb3,ho,Xw,X1,h2,h3,qaf h1,Au,Aa,cond_true]
     rw [e];simp only [Au,cond_true];rw [qa5,Xl hlv,qaa,qaa,qbo hx.1 hx.2,qaa,qaa,qaa,qwi hx.1 hx.2,qaa,qbo hx.1 hx.2,qaa];rfl
    ·rw [← ihd];simp only [Af,cond_false,qb3,ho,Xw,X1,h2,h3,Bool.and_false]
  ·rw [qad (qae h1),← ihd];simp only [cond_false,qb3,qae h1,B5]
theorem qj5 {f:GFrame} (hf:AtOk f):∀ (n m k:Nat) (c:GCase),f.at_.length=k+m→m<n→c.fixed=false→qa7 f n c k=some (c,[],0)
 | 0,m,k,c,_,h,_=>absurd h Ec
 | n+1,0,k,c,hk,_,_=>by rw [qa7,qad (qae Ec),qaa]
 | n+1,m+1,k,c,hk,hn,hfx=>by
  have hlt:k<f.at_.length:=by omega
  have ih:=qj5 hf n m (k+1) c Ec Ec hfx;have hw:IntKind.wrap .i64 ((k:Int)+1)=((k+1:Nat):Int):=by have:=hf.small;rw [qc6 Ec Ec];omega
  rw [qa7,qag (qaf Ec),qa5,Xl hlt,qaa,qad hfx];simp only [qcy,qeh,hw,cond_false];exact ih
def qoy (c:GCase) (f:GFrame):GCase:={ c with told:=c.told.setIfInBounds f.node.toNat true,deps:=qmc c.deps f.deps }
def q3g (c:GCase):GCase:={ c with fixed:=qey c }
def qms (c:GCase) (id:Int) (f:GFrame):GCase × List GFrame × Int :=
 bif f.kind==2 then
  bif c.fixed||(qco c.told f.node.toNat || !qah c.ops (ofZ f.node)) then (c,[],0)
  else (q3g (qoy c f),(bif (q3g (qoy c f)).fixed then qlh (q3g (qoy c f)) id else []),0)
 else bif f.kind==4 then (bif c.fixed then ({ c with known:=c.known.setIfInBounds f.node.toNat true },[],0) else (c,[],0))
 else bif f.kind==5 then (bif c.fixed then (qh0 (ofZ f.node) c f.at_ f.vals,[],0) else (c,[],0))
 else (c,[],3)
def qtj (c:GCase) (id:Int) (f:GFrame):Bool:=qdd c&&(c.begun&&(f.id==id && !qd4 c.deps id))
def qcs (c:GCase) (id:Int) (f:GFrame):GCase × List GFrame × Int :=
 bif qtj c id f then (bif qak f==0 then qms c id f else (c,[],qak f)) else (c,[],2)
theorem qtk {fu:Nat} {c:GCase} {id:Int} {f:GFrame} (hf:7≤fu):qin fu c id f=some (qcs c id f):=by
 unfold qin qcs qtj qdj;rw [qiw];simp only [qaa];cases hg:qdd c
 ·rfl
 ·cases hb:c.begun
  ·rfl
  ·by_cases hid:f.id=id
   ·have e1:(f.id != id)=false:=by simp [hid]
    have e2:(f.id==id)=true:=by simp [hid]
    rw [e1,e2];cases hh:qd4 c.deps id
    ·simp only [Af,Au,Bool.and_true,cond_true,cond_false,qhl,qaa];by_cases hz:qak f=0
     ·have hin:=qi0 hz;have hat:=q0p hz;have hl:=qni hg hb;have e3:(qak f != 0)=false:=by simp [hz]
      have e4:(qak f==0)=true:=by simp [hz]
      rw [e3,e4];simp only [cond_false,cond_true,qms];cases hk2:(f.kind==2)
      ·simp only [cond_false];cases hk4:(f.kind==4)
       ·simp only [cond_false];cases hk5:(f.kind==5)
        ·rfl
        ·simp only [cond_true];cases hfx:c.fixed
         ·exact qj5 hat fu f.at_.length 0 c Ec (by have:=hat.small;omega) hfx
         ·exact qj4 hat fu f.at_.length 0 c Ec (by have:=hat.small;omega) hl hfx
       ·simp only [cond_true];cases hfx:c.fixed
        ·rfl
        ·simp only [cond_true];rw [qay hin.2.1.1 hin.2.1.2,qaa,qrs hin.2.1.1 hin.2.1.2,qaa,qbo hin.2.1.1 hin.2.1.2,qaa];rfl
      ·simp only [cond_true];cases hfx:c.fixed
       ·simp only [cond_false,Bd];rw [qay hin.2.1.1 hin.2.1.2,qaa,qrs hin.2.1.1 hin.2.1.2,qaa];cases ht:qco c.told f.node.toNat
        ·simp only [cond_false,Bd,qaa,qeg];cases hto:qah c.ops (ofZ f.node)
         ·rfl
         ·simp only [Af,cond_false,qhj];rw [qay hin.2.1.1 hin.2.1.2,qaa,qrs hin.2.1.1 hin.2.1.2,qaa,qbo hin.2.1.1 hin.2.1.2,qaa,qaa,qaa,qaa,qx0 hf,qaa,qaa];have e5:({ c with told:=c.told.setIfInBounds f.node.toNat true,deps:=qmc c.deps f.deps,fixed:=qey (qoy c f) }:GCase)=q3g (qoy c f):=rfl;have e6:(q3g (qoy c f)).fixed=qey (qoy c f):=rfl;have ha:=qox (c:=q3g (qoy c f)) (id:=id) hf;cases he:qey (qoy c f)
          ·rw [he] at e5 e6;rw [e6];have he':qey { c with told:=c.told.setIfInBounds f.node.toNat true,deps:=qmc c.deps f.deps }=false:=he;rw [he'];simp only [Au,cond_true,cond_false,qaa];rw [← e5]
          ·rw [he] at e5 e6;rw [e6];have he':qey { c with told:=c.told.setIfInBounds f.node.toNat true,deps:=qmc c.deps f.deps }=true:=he;rw [he'];simp only [Af,cond_true,cond_false,qaa];rw [← e5] at ha ⊢;rw [ha];rfl
        ·rfl
       ·rfl
     ·have e3:(qak f != 0)=true:=by simp [hz]
      have e4:(qak f==0)=false:=by simp [hz]
      rw [e3,e4];rfl
    ·rfl
   ·have e1:(f.id != id)=true:=by simp [hid]
    have e2:(f.id==id)=false:=by simp [hid]
    rw [e1,e2];rfl
theorem qtl {c:GCase} {id:Int} {f:GFrame}:(qms c id f).1.ops=c.ops∧(qms c id f).2.1.length≤6∧∀ x∈(qms c id f).2.1,x.ops.length≤4:=by
 unfold qms;cases (f.kind==2)
 ·cases (f.kind==4)
  ·cases (f.kind==5)
   ·exact ⟨rfl,Xs _,by simp⟩
   ·cases c.fixed
    ·exact ⟨rfl,Xs _,by simp⟩
    ·exact ⟨doneL_same.1,Xs _,by simp⟩
  ·cases c.fixed
   ·exact ⟨rfl,Xs _,by simp⟩
   ·exact ⟨rfl,Xs _,by simp⟩
 ·cases (c.fixed||(qco c.told f.node.toNat || !qah c.ops (ofZ f.node)))
  ·cases (q3g (qoy c f)).fixed
   ·exact ⟨rfl,Xs _,by simp⟩
   ·exact ⟨rfl,againC_small.1,againC_small.2⟩
  ·exact ⟨rfl,Xs _,by simp⟩
theorem qvd {c:GCase} {id:Int} {f:GFrame}:(qcs c id f).1.ops=c.ops∧(qcs c id f).2.1.length≤6∧∀ x∈(qcs c id f).2.1,x.ops.length≤4:=by
 unfold qcs;cases qtj c id f
 ·exact ⟨rfl,Xs _,by simp⟩
 ·cases (qak f==0)
  ·exact ⟨rfl,Xs _,by simp⟩
  ·exact qtl
abbrev Aj := @Vector.setIfInBounds_setIfInBounds
def vat (v:Vector Int 8) (k:Nat):Int:=v[k]?.getD 0
theorem q7f {v:Vector Int 8} {j:Int} (h0:0≤j) (h1:j<8):qa3 v j=some (vat v j.toNat):=qwi h0 h1
theorem q4x {v:Vector Int 8} {k j:Nat} {x:Int} (hk:k<8):vat (v.setIfInBounds k x) j=if k=j then x else vat v j:=by
 unfold vat;rw [Vector.getElem?_setIfInBounds];by_cases e:k=j
 ·rw [if_pos e,if_pos e,if_pos hk];rfl
 ·rw [if_neg e,if_neg e]
theorem qd3 {v:Vector GEntry 32} {k j:Nat} {x:GEntry} (hk:k<32):eat (v.setIfInBounds k x) j=if k=j then x else eat v j:=by
 unfold eat;rw [Vector.getElem?_setIfInBounds];by_cases e:k=j
 ·rw [if_pos e,if_pos e,if_pos hk];rfl
 ·rw [if_neg e,if_neg e]
theorem q5m {v:Vector GEntry 32} {k:Nat} {x:GEntry} (hk:k<32):qer v (k:Int) x=some (v.setIfInBounds k x):=qbo Ec Ec
def qi1 (sh:Int):Nat→List GOp→Vector Int 8→List Int→List Int→Vector Int 8 × List Int × List Int
 | _,[],v,a,b=>(v,a,b)
 | i,o::t,v,a,b=>bif qb7 o.key==sh then qi1 sh (i+1) t (v.setIfInBounds o.key.toNat (doZ (vat v o.key.toNat) o)) (a++[(i:Int)]) (b++[doZ (vat v o.key.toNat) o]) else qi1 sh (i+1) t v a b
def qgz (e:GEntry) (a b:List Int):GEntry:={ e with state:=3,at_:=a,values:=b }
def qoz (s:GNode) (n:Nat) (v:Vector Int 8) (a b:List Int):GNode:={ entries:=s.entries.setIfInBounds n (qgz (eat s.entries n) a b),order:=s.order,values:=v }
def q7g (s:GNode) (n:Nat) (sh:Int):GNode :=
 { entries:=s.entries.setIfInBounds n (qgz (eat s.entries n) (qi1 sh 0 (eat s.entries n).ops s.values [] []).2.1 (qi1 sh 0 (eat s.entries n).ops s.values [] []).2.2),order:=s.order++[(n:Int)],values:=(qi1 sh 0 (eat s.entries n).ops s.values [] []).1 }
theorem qwj {s:GNode} {n:Nat} {v:Vector Int 8} {a b a' b':List Int} {e:GEntry} (he:e=qgz (eat s.entries n) a' b'):({ entries:=(qoz s n v a b).entries.setIfInBounds n e,order:=(qoz s n v a b).order,values:=(qoz s n v a b).values }:GNode)=qoz s n v a' b':=by
 unfold qoz;simp only [Aj,he]
theorem q4y {s:GNode} {n:Nat} {v:Vector Int 8} {a b a':List Int} :
 ({ entries:=(qoz s n v a b).entries.setIfInBounds n { state:=(qgz (eat s.entries n) a b).state,ops:=(qgz (eat s.entries n) a b).ops,first:=(qgz (eat s.entries n) a b).first,deps:=(qgz (eat s.entries n) a b).deps,at_:=a',values:=(qgz (eat s.entries n) a b).values },order:=(qoz s n v a b).order,values:=v }:GNode)=qoz s n v a' b:=qwj rfl
theorem q4z {s:GNode} {n:Nat} {v:Vector Int 8} {a b b':List Int} :
 ({ entries:=(qoz s n v a b).entries.setIfInBounds n { state:=(qgz (eat s.entries n) a b).state,ops:=(qgz (eat s.entries n) a b).ops,first:=(qgz (eat s.entries n) a b).first,deps:=(qgz (eat s.entries n) a b).deps,at_:=(qgz (eat s.entries n) a b).at_,values:=b' },order:=(qoz s n v a b).order,values:=(qoz s n v a b).values }:GNode)=qoz s n v a b':=qwj rfl
theorem qwk {s:GNode} {n:Nat} (hn:n<32) {v:Vector Int 8} {a b:List Int}:eat (qoz s n v a b).entries n=qgz (eat s.entries n) a b:=by
 unfold qoz;rw [qd3 hn,if_pos rfl]
def KeyOk (l:List GOp):Prop:=∀ o∈l,0≤o.key∧o.key<8
theorem KeyOk.of {l:List GOp} (h:qao l=true):KeyOk l:=fun o ho=>by have:=qoc h o ho;omega
theorem qlm {s:GNode} {n:Nat} (hn:n<32) {sh:Int} {e0:GEntry} (he:e0=qgz (eat s.entries n) [] []) (hk:KeyOk (eat s.entries n).ops) (hl:(eat s.entries n).ops.length≤4) (ho:s.order.length≤1000):∀ (q m k:Nat) (v:Vector Int 8) (a b:List Int),(eat s.entries n).ops.length=k+m→m<q→a.length≤k→b.length=a.length →
 qca n sh e0 q (qoz s n v a b) k=some { qoz s n (qi1 sh k ((eat s.entries n).ops.drop k) v a b).1 (qi1 sh k ((eat s.entries n).ops.drop k) v a b).2.1 (qi1 sh k ((eat s.entries n).ops.drop k) v a b).2.2 with order:=s.order++[(n:Int)] }
 | 0,m,k,v,a,b,_,h,_,_=>absurd h Ec
 | q+1,0,k,v,a,b,hkm,_,_,_=>by
  have hb:Rep.bytes Int=8:=rfl;have hord:(qoz s n v a b).order=s.order:=rfl;have e1:e0.ops=(eat s.entries n).ops:=by rw [he];rfl
  rw [qca,e1,qad (qae Ec),B4 Ec,qbs (by rw [hb,hord];simp only [A2];omega)];rfl
 | q+1,m+1,k,v,a,b,hkm,hq,ha,hbl=>by
  have hb:Rep.bytes Int=8:=rfl;have hlt:k<(eat s.entries n).ops.length:=by omega
  have hx:(eat s.entries n).ops[k]? = some (eat s.entries n).ops[k]:=Xl hlt;have hkey:=hk _ (A1 hlt);have e0:e0.ops=(eat s.entries n).ops:=by rw [he];rfl
  have ih:=fun v a b ha hb=>qlm hn (sh:=sh) he hk hl ho q m (k+1) v a b Ec Ec ha hb;rw [qca,e0,qag (qaf Ec),qa5,hx,qaa,qaa,qaa,X3 hlt];simp only [qjj,qgo,wrs k Ec,qi1];generalize (eat s.entries n).ops[k]=o at hkey;cases h1:(qb7 o.key==sh)
  ·rw [cond_false,cond_false,ih v a b Ec hbl]
  ·have hv:(qoz s n v a b).values=v:=rfl;rw [cond_true,cond_true,qay hkey.1 hkey.2,qaa,hv,q7f hkey.1 hkey.2,qaa,qaa,qaa,qaa,qbo hkey.1 hkey.2,qaa,qaa];have hm:({ entries:=(qoz s n v a b).entries,order:=(qoz s n v a b).order,values:=v.setIfInBounds o.key.toNat (doZ (vat v o.key.toNat) o) }:GNode)=qoz s n (v.setIfInBounds o.key.toNat (doZ (vat v o.key.toNat) o)) a b:=rfl;rw [hm];generalize hv2:v.setIfInBounds o.key.toNat (doZ (vat v o.key.toNat) o)=v2;have hvv:vat v2 o.key.toNat=doZ (vat v o.key.toNat) o:=by rw [← hv2,q4x Ec,if_pos rfl]
   have hv':(qoz s n v2 a b).values=v2:=rfl;rw [qva hn,qaa,qaa,qaa,hv',q7f hkey.1 hkey.2,qaa,qwk hn,hvv];have e1:(qgz (eat s.entries n) a b).at_=a:=rfl;have e2:(qgz (eat s.entries n) a b).values=b:=rfl;rw [e1,e2,qbs (by rw [hb];simp only [A2];omega),qaa,qbs (by rw [hb];simp only [A2];omega),qaa,qaa,q5m hn,qaa,qaa];rw [q4y,qva hn,qaa,qwk hn,q5m hn,qaa,qaa,q4z];exact ih v2 _ _ (by simp;omega) (by simp [hbl])
theorem qve {fu:Nat} {s:GNode} {n:Nat} (hn:n<32) {sh:Int} (hk:KeyOk (eat s.entries n).ops) (hl:(eat s.entries n).ops.length≤4) (ho:s.order.length≤1000) (hfu:5≤fu):qk4 fu s n sh=some (q7g s n sh):=by
 unfold qk4;have h:=qlm hn (sh:=sh) (e0:=qgz (eat s.entries n) [] []) rfl hk hl ho fu (eat s.entries n).ops.length 0 s.values [] [] Ec Ec (by simp) rfl;have h:qca n sh (qgz (eat s.entries n) [] []) fu (qoz s n s.values [] []) 0=some (q7g s n sh):=h;have e1:∀ (x:GEntry),({ s with entries:=s.entries.setIfInBounds n x }:GNode).entries=s.entries.setIfInBounds n x:=fun _=>rfl;rw [qay Ec Ec,qaa,qva hn,qaa,q5m hn,qaa,qaa];rw [e1,qva hn,qaa,qd3 hn,if_pos rfl,q5m hn,qaa,qaa];simp only [Aj];rw [qva hn,qaa,qd3 hn,if_pos rfl,q5m hn,qaa,qaa];simp only [Aj];rw [qva hn,qaa,qd3 hn,if_pos rfl];rw [← h];rfl
theorem q0q {m:Int}:∀ {l:List Int} {b b':Int},b'≤b→qwg m b l=true→qwg m b' l=true
 | [],_,_,_,_=>rfl
 | x::t,b,b',h,ha=>by
  unfold qwg at *;simp only [Bool.and_eq_true,decide_eq_true_eq] at *;exact ⟨⟨by omega,ha.1.2⟩,ha.2⟩
theorem qrt {sh:Int}:∀ (l:List GOp) (i:Nat) (v:Vector Int 8) (a b:List Int),∃ L,(qi1 sh i l v a b).2.1=a++L∧qwg ((i+l.length:Nat):Int) ((i:Int)-1) L=true∧(qi1 sh i l v a b).2.2.length=b.length+L.length
 | [],i,v,a,b=>⟨[],by simp [qi1],rfl,by simp [qi1]⟩
 | o::t,i,v,a,b=>by
  unfold qi1;cases h:(qb7 o.key==sh)
  ·obtain ⟨L,h1,h2,h3⟩:=qrt t (i+1) v a b;rw [cond_false];refine ⟨L,h1,?_,h3⟩;rw [show i+(o::t).length=i+1+t.length from by simp;omega];exact q0q Ec h2
  ·obtain ⟨L,h1,h2,h3⟩:=qrt t (i+1) (v.setIfInBounds o.key.toNat (doZ (vat v o.key.toNat) o)) (a++[(i:Int)]) (b++[doZ (vat v o.key.toNat) o]);rw [cond_true];refine ⟨(i:Int)::L,by rw [h1];simp,?_,by rw [h3];simp;omega⟩;rw [show i+(o::t).length=i+1+t.length from by simp;omega];unfold qwg;simp only [Xn,decide_eq_true_eq];refine ⟨⟨by omega,by omega⟩,?_⟩;rw [show (i:Int)=((i+1:Nat):Int)-1 from by omega];exact h2
theorem entryOk_iff {k:Int} {e:GEntry} {t:Bool}:qf3 k e t=true↔(0≤e.state∧e.state≤3)∧(e.state=3↔t=true)∧qqq k e=true:=by
 unfold qf3;simp only [Xn,decide_eq_true_eq];refine and_congr_right fun _=>and_congr_left fun _=>?_;cases t<;>simp
structure Body (k:Int) (e:GEntry):Prop where
 ops:qao e.ops=true
 first:qaq e.first=true
 deps:qaq e.deps=true
 nfirst:qd4 e.first k=false
 ndeps:qd4 e.deps k=false
 asked:e.state=1→e.deps=[]
 undone:e.state≠3→e.at_=[]
 same:e.at_.length=e.values.length
 up:qwg e.ops.length (-1) e.at_=true
theorem body_iff {k:Int} {e:GEntry}:qtf k e=true↔Body k e:=by
 unfold qtf;simp only [Xn,B3];constructor
 ·rintro ⟨h1,h2,h3,h4,h5,h6,h7,h8,h9⟩;refine ⟨h1,h2,h3,h4,h5,fun h=>?_,fun h=>?_,?_,h9⟩
  ·rw [h] at h6;simpa using h6
  ·have:(e.state != 3)=true:=by simpa using h
   rw [this] at h7;simpa using h7
  ·simp only [bne_eq_false_iff_eq] at h8;omega
 ·rintro ⟨h1,h2,h3,h4,h5,h6,h7,h8,h9⟩;refine ⟨h1,h2,h3,h4,h5,?_,?_,?_,h9⟩
  ·by_cases h:e.state=1
   ·rw [h6 h];simp
   ·simp [h]
  ·by_cases h:e.state=3
   ·rw [h];rfl
   ·rw [h7 h];simp
  ·simp only [bne_eq_false_iff_eq];omega
theorem GoodN.body {s:GNode} (h:GoodN s) {k:Nat} (hk:k<32) (h0:(eat s.entries k).state≠0):Body k (eat s.entries k):=by
 have:=(entryOk_iff.1 (h.ent k hk)).2.2;unfold qqq at this;rw [qad (by simpa using h0)] at this;exact body_iff.1 this
theorem GoodN.state {s:GNode} (h:GoodN s) {k:Nat} (hk:k<32):0≤(eat s.entries k).state∧(eat s.entries k).state≤3:=(entryOk_iff.1 (h.ent k hk)).1
theorem GoodN.done {s:GNode} (h:GoodN s) {k:Nat} (hk:k<32):(eat s.entries k).state=3↔(k:Int)∈s.order:=by
 rw [(entryOk_iff.1 (h.ent k hk)).2.1];simp
theorem emptyE_iff {e:GEntry}:qqp e=true↔e.ops=[]∧e.first=[]∧e.deps=[]∧e.at_=[]∧e.values=[]:=by
 unfold qqp;simp [X2]
theorem GoodN.empty {s:GNode} (h:GoodN s) {k:Nat} (hk:k<32) (h0:(eat s.entries k).state=0):(eat s.entries k).ops=[]∧(eat s.entries k).first=[]∧(eat s.entries k).deps=[]∧(eat s.entries k).at_=[]∧(eat s.entries k).values=[]:=by
 have:=(entryOk_iff.1 (h.ent k hk)).2.2;unfold qqq at this;rw [qag (by simpa using h0)] at this;exact emptyE_iff.1 this
theorem qru {l:List Int} (h:l.Nodup) (hr:∀ m∈l,0≤m∧m<32):l.length≤32:=by
 have h1:(l.map Int.toNat).Nodup:=by
  refine Dr.2 (h.imp_of_mem fun {a b} ha hb hab=>?_);have:=hr a ha;have:=hr b hb;omega
 have:=qiv 32 (l.map Int.toNat) h1 fun x hx=>by
  obtain ⟨y,hy,rfl⟩:=Be.1 hx;have:=hr y hy;omega
 simpa using this
theorem GoodN.len {s:GNode} (h:GoodN s):s.order.length≤32:=qru h.nodup h.inr
theorem GoodN.set {s t:GNode} (h:GoodN s) {n:Nat} (hn:n<32) {e:GEntry} (he:t.entries=s.entries.setIfInBounds n e) (ho:t.order=s.order) (h3:(eat s.entries n).state≠3) (h1:1≤e.state∧e.state≤2) (hb:Body n e):GoodN t:=by
 refine ⟨by rw [ho];exact h.nodup,by rw [ho];exact h.inr,fun k hk=>?_⟩;rw [he,ho,qd3 hn];by_cases e':n=k
 ·subst e';rw [if_pos rfl];refine entryOk_iff.2 ⟨by omega,⟨fun h=>by omega,fun hm=>?_⟩,?_⟩
  ·exact absurd ((h.done hn).2 (by simpa using hm)) h3
  ·unfold qqq;rw [qad (by simp;omega)];exact body_iff.2 hb
 ·rw [if_neg e'];exact h.ent k hk
theorem GoodN.one {s:GNode} (h:GoodN s) {n:Nat} (hn:n<32) (h2:(eat s.entries n).state=2) (sh:Int):GoodN (q7g s n sh):=by
 have hb:=h.body hn Ec;have hno:(n:Int)∉s.order:=fun hm=>by have:=(h.done hn).2 hm;omega
 refine ⟨?_,?_,fun k hk=>?_⟩
 ·refine Bw.2 ⟨h.nodup,by simp,fun a ha b hb=>?_⟩;rw [Xu.1 hb];rintro rfl;exact hno ha
 ·intro m hm;rcases Xr.1 hm with hm | hm
  ·exact h.inr m hm
  ·rw [Xu.1 hm];omega
 ·show qf3 k (eat (s.entries.setIfInBounds n _) k) (decide ((k:Int)∈s.order++[(n:Int)]))=true;rw [qd3 hn];by_cases e':n=k
  ·subst e';rw [if_pos rfl];obtain ⟨L,a1,a2,a3⟩:=qrt (sh:=sh) (eat s.entries n).ops 0 s.values [] [];refine entryOk_iff.2 ⟨(show (0:Int)≤3∧(3:Int)≤3 by decide),⟨fun _=>by simp,fun _=>rfl⟩,?_⟩;show (bif false then _ else qtf _ _)=true;rw [cond_false];refine body_iff.2 ⟨hb.ops,hb.first,hb.deps,hb.nfirst,hb.ndeps,fun h=>?_,fun h=>absurd rfl h,?_,?_⟩
   ·have:(3:Int)=1:=h;omega
   ·show (qi1 sh 0 (eat s.entries n).ops s.values [] []).2.1.length=(qi1 sh 0 (eat s.entries n).ops s.values [] []).2.2.length;rw [a1,a3];simp
   ·show qwg _ (-1) (qi1 sh 0 _ s.values [] []).2.1=true;rw [a1,A5];rw [Ax] at a2;exact a2
  ·rw [if_neg e'];have:decide ((k:Int)∈s.order++[(n:Int)])=decide ((k:Int)∈s.order):=by
    apply decide_eq_decide.2;simp only [Xr,Xu];constructor
    ·rintro (h | h)
     ·exact h
     ·omega
    ·exact .inl
   rw [this];exact h.ent k hk
open Go.RowKit Go.ChangeShapes Go.WideShapes Go.ChangeAt Go.Deep
section
variable {H:Type} {enc:TypeId × Value→H} {P:Program} {w:World}
theorem qj6 {P:Program} {e:TypeId}:∀ {ds:List (DataW H)} {d:DataW H},d∈ds→∀ n∈d.weights P e,n∈DataW.weightsAll P e ds
 | d0::ds,d,hd,n,hn=>by
  simp only [DataW.weightsAll,List.mem_append];rcases List.mem_cons.1 hd with h | h
  ·subst h;exact .inl hn
  ·exact .inr (qj6 h n hn)
end
def wholeM (w:World):Mm:=fun b=>match w.heap[b]? with | some (.cells arr _ _)=>some arr.toList | _=>none
theorem wholeM_agree (w:World):Agree (wholeM w) w:=fun b p hb=>by
 unfold wholeM at hb;split at hb
 ·rename_i arr t fr hh;cases hb;exact ⟨arr,t,fr,hh,A3 _⟩
 ·cases hb
theorem qo0 {H:Type} {P:Program} {ts:List TypeId} {ds:List (DataW H)} {j:Nat} {t:TypeId} {d:DataW H} (ht:ts[j]? = some t) (hd:ds[j]? = some d):∀ n∈d.weights P t,n∈DataW.weightsEach P ts ds:=DataW.weights_mem_each ht hd
def Opn (P:Program) (t:TypeId) (α : Type) [Rep α]:Prop :=
 P.cellsOf t=Rep.k α ∧ ∀ (H:Type) (enc:TypeId × Value→H) (w:World) (fuel:Nat) (cs:List Value) (d:DataW H) (p:List MemPlace),
  DataW.trod enc P w 0 (fun _=>true) true fuel t cs=some (d,p)→(∀ n∈d.weights P t,n≤reachBytes)→∃ x : α,rep (wholeM w) cs x
section
variable {P:Program} {t e:TypeId} {α : Type} [Rep α]
theorem q40 (ht:P.underlying t=some (.int .i64)) (hc:P.cellsOf t=1):Opn P t Int:=⟨hc,fun H enc w fuel cs d p h hw=>by
 obtain ⟨n,rfl,_,_⟩:=DataW.trod_int ht h
 exact ⟨n,rfl⟩⟩
theorem q3h (a:Addr) (i:Nat):(a.add i).block=a.block∧(a.add i).off=a.off+i:=by
 unfold Addr.add;split
 ·rename_i h;exact ⟨rfl,by rw [show i=0 by simpa using h];rfl⟩
 ·exact ⟨rfl,rfl⟩
theorem qvf {w:World} {a:Addr} {k:Nat} {cs:List Value} (h:w.cells? 0 a k=some cs) (hk:0<k) :
 a.spot=none∧∃ q,wholeM w a.block=some q∧a.off+k≤q.length∧sl q a.off k=cs:=by
 obtain ⟨_,hl,hat⟩:=World.cells?_some h;have h0:=hat 0 hk;rw [Xl Ec] at h0;have hsp:a.spot=none:=by
  have:=World.cell?_spot h0;simpa [Addr.add] using this
 refine ⟨hsp,?_⟩;have hc:∀ i,i<k→∃ arr tt fr,w.heap[a.block]? = some (.cells arr tt fr)∧arr[a.off+i]? = cs[i]? := by
  intro i hi;have hi':=hat i hi;rw [Xl Ec] at hi' ⊢;unfold World.cell? at hi';split at hi'
  ·rename_i arr tt fr hh;rw [(q3h a i).1] at hh;refine ⟨arr,tt,fr,hh,?_⟩;split at hi'
   ·cases hi'
   ·rw [(q3h a i).2] at hi';exact hi'
  ·cases hi'
 obtain ⟨arr,tt,fr,hh,_⟩:=hc 0 hk;have hall:∀ i,i<k→arr[a.off+i]? = cs[i]? := by
  intro i hi;obtain ⟨arr',tt',fr',hh',he⟩:=hc i hi;rw [hh] at hh';cases hh';exact he
 have hlen:a.off+k≤arr.size:=by
  have:=hall (k-1) Ec;rw [Xl Ec] at this;have:=(Az.1 this).1;omega
 refine ⟨arr.toList,by simp [wholeM,hh],by simpa using hlen,?_⟩;refine qh2 fun j=>?_;by_cases hj:j<k
 ·rw [qeq _ _ _ _ hj];simpa using hall j hj
 ·rw [qbr _ _ _ _ Ec,Ao Ec]
theorem qtm (ht:P.underlying t=some (.slice e)) (hc:P.cellsOf t=1) (he:Opn P e α) (hk:0<Rep.k α) (hby:P.bytesOf e=Rep.bytes α):Opn P t (List α):=⟨hc,fun H enc w fuel cs d p h hw=>by
 rcases open_slice ht h with ⟨rfl,hx⟩ | ⟨a,len,cap,m,n,D,Pl,rfl,_,hl,hm,hmm,hx,hel⟩
 ·exact ⟨[],_,rfl,qi7 _⟩
 ·simp only [if_true] at hmm
  subst hmm
  simp only [Prod.mk.injEq] at hx
  rw [hx.1] at hw
  simp only [DataW.weights,ht,hby,List.mem_cons,List.mem_append,List.length_map,List.length_range] at hw
  have hw1:=hw _ (.inl rfl)
  unfold reachBytes at hw1
  have hone:∀ i,i<len→∃ x : α,∃ b off q,a.add (i*Rep.k α)=⟨b,off,none⟩∧wholeM w b=some q∧off+Rep.k α ≤ q.length∧rep (wholeM w) (sl q off (Rep.k α)) x:=by
   intro i him
   obtain ⟨cs',h1,h2⟩:=hel i Ec
   rw [he.1] at h1
   obtain ⟨hsp,q,hq,hlq,hsl⟩:=qvf h1 hk
   obtain ⟨x,hxr⟩:=he.2 H enc w n cs' (D i) (Pl i) h2 fun nn hnn=>hw nn (.inr (.inl (qj6 (Be.2 ⟨i,Ai.2 him,rfl⟩) _ hnn)))
   refine ⟨x,_,_,q,?_,hq,hlq,by rw [hsl];exact hxr⟩
   rw [← hsp]
  by_cases hz:len=0
  ·subst hz
   exact ⟨[],.slice (some a) 0 m,rfl,some a,m,rfl,by simp,(fun h=>by cases h),by simp,fun i x hx=>by simp at hx⟩
  have hspot:∃ b off,a=⟨b,off,none⟩:=by
   obtain ⟨x,b,off,q,e1,_⟩:=hone 0 Ec
   obtain ⟨ab,ao,asp⟩:=a
   simp [Addr.add] at e1
   exact ⟨ab,ao,by rw [e1.2.2]⟩
  obtain ⟨b,off,rfl⟩:=hspot
  obtain ⟨x0,_⟩:=hone 0 Ec
  haveI:Inhabited α := ⟨x0⟩
  obtain ⟨V,hV⟩:=choose_lt (α := α) hone
  have hlen:((List.range len).map V).length=len:=by simp
  refine ⟨(List.range len).map V,.slice (some ⟨b,off,none⟩) len m,rfl,some ⟨b,off,none⟩,m,by rw [hlen],by rw [hlen];exact hl,(fun h=>by cases h),?_,fun i x hx=>?_⟩
  ·rw [hlen]
   exact X5 (Xv _ (by omega:len≤len+(m-len))) hw1
  ·have hi:i<len:=by
    have:=(Xi.1 hx).1
    omega
   have hxe:V i=x:=by simpa [hi] using hx
   obtain ⟨b',off',q,e1,hq,hlq,hr⟩:=hV i hi
   rw [Addr.add_lit] at e1
   cases e1
   exact ⟨_,_,q,rfl,hq,hlq,hxe ▸ hr⟩⟩
theorem qf4 {H:Type} {enc:TypeId × Value→H} {w:World} {fuel:Nat} {cs:List Value} {d:DataW H} {p:List MemPlace} {fs:Array Field} (ht:P.underlying t=some (.struct fs))
 (h:DataW.trod enc P w 0 (fun _=>true) true fuel t cs=some (d,p)) (hw:∀ n∈d.weights P t,n≤reachBytes) (i:Nat) (f:Field) (hf:fs[i]? = some f) {e:TypeId} {o k:Nat} (h1:f.type=e) (h2:f.offset=o) (hk:Rep.k α = k) (he:Opn P e α) :
 ∃ x : α,rep (wholeM w) (sl cs o k) x:=by
 subst hk;subst h1;subst h2;obtain ⟨ys,n,_,hx,_,hyl,hfld⟩:=DataW.trod_struct ht h;obtain ⟨rfl,rfl⟩:=Prod.mk.inj hx;have hi:i<fs.size:=(Az.1 hf).1;have e0:=hfld i f hf;rw [Xl Ec,he.1] at e0;refine he.2 H enc w n _ _ _ e0 fun nn hnn=>hw nn ?_;simp only [DataW.weights,ht];refine qo0 (j:=i) ?_ ?_ nn hnn
 ·simp only [X6];rw [A7,hf];rfl
 ·simp only [X6,Xl (show i<ys.length by omega),Xw];rfl
theorem q41 (ho:Opn P t α) {H:Type} {enc:TypeId × Value→H} {w:World} {v:Value} {d:DataW H} {p:List MemPlace} (h:DataW.Trod enc P w 0 (fun _=>true) true t v d p) (hw:(d.weights P t).all (· ≤ reachBytes)=true) :
 ∃ x : α,rep (wholeM w) v.cells.toList x:=by
 obtain ⟨fuel,hf⟩:=h;exact ho.2 H enc w fuel _ _ _ hf fun n hn=>of_decide_eq_true (Av.1 hw n hn)
theorem opn_row {e:TypeId} (ht:P.underlying t=some (.slice e)) (ho:Opn P t (List α)) {H:Type} {enc:TypeId × Value→H} {w:World} {v:Value} {d:DataW H} {p:List MemPlace} (hv:Value.okWide P w .any 0 t v)
 (h:DataW.Trod enc P w 0 (fun _=>true) true t v d p) (hw:(d.weights P t).all (· ≤ reachBytes)=true):∃ l:List α,repL (wholeM w) v l:=by
 obtain ⟨a,len,cap,rfl⟩:=okWide_slice ht hv;obtain ⟨x,v',hx,hr⟩:=q41 ho h hw;have:v'= .slice a len cap:=by simpa [Value.cells] using hx.symm
 subst this;exact ⟨x,hr⟩
end
def g0:GGraph:={ known:=((Zr.zd:Vector Bool 32).setIfInBounds 1 true).setIfInBounds 2 true,deps:=((Zr.zd:Vector (List Int) 32).setIfInBounds 1 [2]).setIfInBounds 2 [1] }
def qvg (sh:Int) (s:GNode) (m:Nat):GNode:=bif (eat s.entries m).state==2 then q7g s m sh else s
def q5n (sh:Int) (s:GNode) (l:List Nat):GNode:=l.foldl (qvg sh) s
noncomputable def q1c (g:GGraph) (n:Nat):List Nat:=if qhx g (n:Int)=true then qz9 (qbk g) n else []
noncomputable def qrv (g:GGraph) (sh:Int) (s:GNode) (n:Nat):GNode:=bif (eat s.entries n).state==2 then q5n sh s (q1c g n) else s
noncomputable def qvh (s:GNode) (sh:Int):GNode:=(List.range 32).foldl (qrv (qmq s) sh) s
theorem qtn (g:GGraph) (n:Nat):qwf g (n:Int)=qc1 (q1c g n):=by
 unfold qwf q1c qc1;by_cases h:qhx g (n:Int)=true
 ·rw [if_pos h,if_pos h,Bg]
 ·rw [if_neg h,if_neg h];rfl
theorem qvi {g:GGraph} {n:Nat} (hn:n<32):∀ m∈q1c g n,m<32:=by
 unfold q1c;by_cases h:qhx g (n:Int)=true
 ·rw [if_pos h];exact (qta (qf1 g) hn).lt
 ·rw [if_neg h];simp
theorem qwl {g:GGraph} {n:Nat} (hn:n<32):(q1c g n).length≤32:=by
 unfold q1c;by_cases h:qhx g (n:Int)=true
 ·rw [if_pos h];exact (qta (qf1 g) hn).len
 ·rw [if_neg h];simp
theorem GoodN.step {s:GNode} (h:GoodN s) {m:Nat} (hm:m<32) (sh:Int):GoodN (qvg sh s m):=by
 unfold qvg;cases h2:((eat s.entries m).state==2)
 ·exact h
 ·exact h.one hm (by simpa using h2) sh
theorem GoodN.run (sh:Int):∀ (l:List Nat) {s:GNode},GoodN s→(∀ m∈l,m<32)→GoodN (q5n sh s l)
 | [],_,h,_=>h
 | m::t,_,h,hl=>GoodN.run sh t (h.step (hl m List.mem_cons_self) sh) fun x hx=>hl x (List.mem_cons_of_mem _ hx)
theorem GoodN.turn {s:GNode} (h:GoodN s) {n:Nat} (hn:n<32) (g:GGraph) (sh:Int):GoodN (qrv g sh s n):=by
 unfold qrv;cases ((eat s.entries n).state==2)
 ·exact h
 ·exact h.run sh _ (qvi hn)
theorem GoodN.turns (g:GGraph) (sh:Int):∀ (l:List Nat) {s:GNode},GoodN s→(∀ m∈l,m<32)→GoodN (l.foldl (qrv g sh) s)
 | [],_,h,_=>h
 | m::t,_,h,hl=>GoodN.turns g sh t (h.turn (hl m List.mem_cons_self) g sh) fun x hx=>hl x (List.mem_cons_of_mem _ hx)
theorem GoodN.exec {s:GNode} (h:GoodN s) (sh:Int):GoodN (qvh s sh):=h.turns _ sh _ fun m hm=>Ai.1 hm
theorem q0r (l:List Nat) (k:Nat):(qc1 l)[k]? = (l[k]?).map fun m=>((m:Nat):Int):=by simp [qc1]
theorem q2j {s:GNode} (h:GoodN s) {m:Nat} (hm:m<32) (h2:((eat s.entries m).state==2)=true):KeyOk (eat s.entries m).ops∧(eat s.entries m).ops.length≤4:=by
 have h2:(eat s.entries m).state=2:=by simpa using h2
 have hb:=h.body hm Ec;exact ⟨KeyOk.of hb.ops,(qdk hb.ops).2⟩
theorem qj7 {fu:Nat} (hfu:5≤fu) {sh y:Int} {rec:GNode→Int→Option GNode} {l:List Nat} (hl:∀ m∈l,m<32) (hlen:l.length≤32):∀ (q m k:Nat) (s:GNode),l.length=k+m→m<q→GoodN s→qbw fu sh y rec (qc1 l) q s k=qci y rec (q5n sh s (l.drop k))
 | 0,m,k,s,_,h,_=>absurd h Ec
 | q+1,0,k,s,hk,_,_=>by
  rw [qbw,qlg,qad (qae Ec),List.drop_of_length_le Ec];rfl
 | q+1,m+1,k,s,hk,hq,hs=>by
  have hlt:k<l.length:=by omega
  have hm:=hl _ (A1 hlt);have ih:=fun s hs=>qj7 (y:=y) (rec:=rec) (sh:=sh) hfu hl hlen q m (k+1) s Ec Ec hs;rw [qbw,qlg,qag (qaf Ec),qa5,q0r,Xl hlt,X3 hlt];generalize l[k]=x at hm;simp only [Xw,qaa,qfp,wrs k Ec];rw [qay Ec Ec,qaa,qva hm,qaa];show _=qci y rec (q5n sh (qvg sh s x) (l.drop (k+1)));have hst:=hs.step hm sh;unfold qvg at hst ⊢;cases h2:((eat s.entries x).state==2)
  ·rw [cond_false,cond_false,ih s hs]
  ·rw [h2,cond_true] at hst;obtain ⟨b1,b2⟩:=q2j hs hm h2;rw [cond_true,cond_true,qve hm b1 b2 (by have:=hs.len;omega) hfu,qaa,ih _ hst]
theorem qj8 {fu N:Nat} {g:GGraph} (hg:qm3 g N) (hfu:N+80≤fu) {sh:Int}:∀ (q m k:Nat) (s:GNode),k+m=32→m<q→GoodN s→qbh fu sh g q s k=some ((List.range' k m).foldl (qrv g sh) s)
 | 0,m,k,s,_,h,_=>absurd h Ec
 | q+1,0,k,s,hk,_,_=>by rw [qbh,qad (qae Ec),qaa];rfl
 | q+1,m+1,k,s,hk,hq,hs=>by
  have hk32:k<32:=by omega
  have ih:=fun s hs=>qj8 hg hfu (sh:=sh) q m (k+1) s Ec Ec hs;rw [qbh,qag (qaf Ec),qay Ec Ec,qaa,qva hk32,qaa,List.range'_succ,List.foldl_cons];have hne:((eat s.entries k).state != 2) = !((eat s.entries k).state==2):=rfl;have ht:=hs.turn hk32 g sh;rw [hne];unfold qrv at ht ⊢;cases h2:((eat s.entries k).state==2)
  ·rw [Au,cond_true,cond_false,qci,wrs k Ec,ih s hs];rfl
  ·rw [h2,cond_true] at ht;rw [Af,cond_false,cond_true,qxw hg hfu,qaa,qtn];have h:=qj7 (fu:=fu) (sh:=sh) (y:=(k:Int)) (rec:=qbh fu sh g q) Ec (qvi (g:=g) hk32) (qwl (g:=g) hk32) fu (q1c g k).length 0 s Ec (by have:=qwl (g:=g) hk32;omega) hs;have h:qbw fu sh k (qbh fu sh g q) (qc1 (q1c g k)) fu s 0=qci k (qbh fu sh g q) (q5n sh s (q1c g k)):=h;rw [h,qci,wrs k Ec,ih _ ht];rfl
theorem GoodN.small {s:GNode} (h:GoodN s):qm3 (qmq s) 33:=by
 intro a;by_cases ha:a<32
 ·rw [qlk ha];by_cases h0:(eat s.entries a).state=0
  ·rw [(h.empty ha h0).2.2.1];simp
  ·have:=qgw (h.body ha h0).deps;omega
 ·unfold qa9;rw [dif_neg ha];exact ⟨by simp,by simp⟩
theorem qck {fu:Nat} {l:List Int} (h:l.length≤17592186043904):qbu fu l=some l:=by
 have hb:Rep.bytes Int=8:=rfl;unfold qbu;rw [qbs (by rw [hb];simp only [Bk];omega)];rfl
theorem qto {fu:Nat} {s:GNode} (hs:GoodN s) (hfu:120≤fu) (sh:Int):qik fu s sh=some (qvh s sh):=by
 unfold qik;rw [qrr Ec,qaa,qaa,qck (by have:=hs.len;omega),qaa,qaa];have h:=qj8 (fu:=fu) hs.small Ec (sh:=sh) fu 32 0 s Ec Ec hs;unfold qvh;rw [List.range_eq_range'];exact h
def qo1 (who id:Int):GFrame:={ kind:=4,node:=who,id:=id,ops:=[],deps:=[],at_:=[],vals:=[] }
def q42 (who id:Int) (x:GEntry):GFrame:={ kind:=5,node:=who,id:=id,ops:=[],deps:=[],at_:=x.at_,vals:=x.values }
def q0s (who id:Int) (l:List Int):GFrame:={ kind:=2,node:=who,id:=id,ops:=[],deps:=l,at_:=[],vals:=[] }
def qi2 (sh who id:Int) (s:GNode):List GFrame:=bif (eat s.entries id.toNat).state==3&&qah (eat s.entries id.toNat).ops sh then [qo1 who id,q42 who id (eat s.entries id.toNat)] else [qo1 who id]
def q7h (s:GNode) (f:GFrame) (sh:Int):GEntry:={ state:=1,ops:=f.ops,first:=qli s f.id f.ops sh,deps:=[],at_:=[],values:=[] }
def q3i (s:GNode) (f:GFrame) (sh:Int):GNode:=bif (eat s.entries f.id.toNat).state==0 then { s with entries:=s.entries.setIfInBounds f.id.toNat (q7h s f sh) } else s
def qo2 (s:GNode) (f:GFrame) (sh:Int):List Int:=bif (eat s.entries f.id.toNat).state==0 then qli s f.id f.ops sh else (eat s.entries f.id.toNat).first
def q0t (s:GNode) (f:GFrame) (sh:Int):GEntry:={ state:=2,ops:=f.ops,first:=qo2 s f sh,deps:=f.deps,at_:=(eat s.entries f.id.toNat).at_,values:=(eat s.entries f.id.toNat).values }
def qvj (s:GNode) (f:GFrame) (sh:Int):GNode:={ s with entries:=s.entries.setIfInBounds f.id.toNat (q0t s f sh) }
noncomputable def qgi (s:GNode) (f:GFrame) (sh:Int):GNode:=bif decide ((eat s.entries f.id.toNat).state<2) then qvh (qvj s f sh) sh else s
noncomputable def qpo (s:GNode) (who:Int) (f:GFrame):GNode × List GFrame × Int :=
 bif f.kind==1 then bif qah f.ops (ofZ who) then (q3i s f (ofZ who),[q0s who f.id (eat (q3i s f (ofZ who)).entries f.id.toNat).first],0) else (s,[],4)
 else bif f.kind==3 then (qgi s f (ofZ who),qi2 (ofZ who) who f.id (qgi s f (ofZ who)),0) else (s,[],3)
noncomputable def qde (s:GNode) (who:Int) (f:GFrame):GNode × List GFrame × Int :=
 bif qvb s&&(decide (0≤who∧who<6)&&f.node==who) then bif qak f==0 then qpo s who f else (s,[],qak f) else (s,[],2)
theorem qx1 {l:List Nat} (h:l.Pairwise (· < ·)) (h32:∀ m∈l,m<32):qaq (qc1 l)=true:=by
 unfold qaq;rw [qff];intro i hi;rw [qlg] at hi;have g:∀ j,j<l.length→(qc1 l).getD j 0=((l[j]?.getD 0:Nat):Int):=fun j hj=>by
  simp [qc1,hj]
 unfold qib;rw [g i hi,Xl hi,X1];have h1:=h32 _ (A1 hi);rw [qaf Ec,qaf Ec,Aa,Aa];by_cases h0:i=0
 ·simp [h0]
 ·rw [g (i-1) Ec,Xl (show i-1<l.length by omega),X1];have:=Al.1 h (i-1) i Ec hi Ec;rw [qaf Ec,Bool.or_true]
theorem aheadL_mem {s:GNode} {id:Int} {ops:List GOp} {sh:Int} {m:Nat}:m∈qwh s id ops sh↔m<32∧qti s id ops sh m=true:=by
 unfold qwh;simp
theorem qwm {s:GNode} {n:Nat} {ops:List GOp} {sh:Int}:qaq (qli s n ops sh)=true∧qd4 (qli s n ops sh) n=false:=by
 refine ⟨qx1 ?_ fun m hm=>(aheadL_mem.1 hm).1,?_⟩
 ·exact List.Pairwise.filter _ List.pairwise_lt_range
 ·rw [qli,qxv];apply qae;intro h;have:=(aheadL_mem.1 h).2;unfold qti at this;simp at this
theorem qo3 {f:GFrame} (h:qak f=0):qkf f=true∧qg5 f=true∧qma f=true:=by
 unfold qak at h;split at h
 ·cases h
 ·split at h
  ·cases h
  ·split at h
   ·rename_i h3;simpa [Xn] using h3
   ·cases h
theorem q0u {f:GFrame} (h:qak f=0) (hk:f.kind=1∨f.kind=3):qao f.ops=true:=by
 have:=(qo3 h).1;unfold qkf at this;rwa [if_pos hk] at this
theorem q0v {f:GFrame} (h:qak f=0) (hk:f.kind=3):qaq f.deps=true∧qd4 f.deps f.id=false:=by
 have:=(qo3 h).2.1;unfold qg5 at this;rw [if_pos (.inr hk)] at this;simpa [Xn] using this
theorem GoodN.asked {s:GNode} (h:GoodN s) {f:GFrame} (hf:qak f=0) (hk:f.kind=1) (sh:Int):GoodN (q3i s f sh):=by
 obtain ⟨_,_,hid⟩:=qi0 hf;obtain ⟨n,hn⟩:∃ n:Nat,f.id=n:=⟨f.id.toNat,by omega⟩;unfold q3i;rw [hn,Bg];cases h0:((eat s.entries n).state==0)
 ·exact h
 ·have h0:(eat s.entries n).state=0:=by simpa using h0
  refine h.set (n:=n) Ec rfl rfl Ec ⟨by show (1:Int)≤1;omega,by show (1:Int)≤2;omega⟩ ?_;have ha:qaq (qli s f.id f.ops sh)=true∧qd4 (qli s f.id f.ops sh) n=false:=by rw [hn];exact qwm
  exact ⟨q0u hf (.inl hk),ha.1,rfl,ha.2,rfl,fun _=>rfl,fun _=>rfl,rfl,rfl⟩
theorem GoodN.comm {s:GNode} (h:GoodN s) {f:GFrame} (hf:qak f=0) (hk:f.kind=3) (h2:(eat s.entries f.id.toNat).state<2) (sh:Int):GoodN (qvj s f sh):=by
 obtain ⟨_,_,hid⟩:=qi0 hf;obtain ⟨n,hn⟩:∃ n:Nat,f.id=n:=⟨f.id.toNat,by omega⟩;have hn32:n<32:=by omega
 have hto:f.id.toNat=n:=by rw [hn];rfl
 rw [hto] at h2;have hfi:qaq (qo2 s f sh)=true∧qd4 (qo2 s f sh) n=false:=by
  unfold qo2;rw [hto];cases h0:((eat s.entries n).state==0)
  ·have hb:=h.body hn32 (by simpa using h0);exact ⟨hb.first,hb.nfirst⟩
  ·rw [cond_true,hn];exact qwm
 have hat:(eat s.entries n).at_=[]∧(eat s.entries n).values=[]:=by
  by_cases h0:(eat s.entries n).state=0
  ·exact ⟨(h.empty hn32 h0).2.2.2.1,(h.empty hn32 h0).2.2.2.2⟩
  ·have hb:=h.body hn32 h0;have h1:=hb.undone Ec;have h2:=hb.same;rw [h1] at h2;exact ⟨h1,X2.1 h2.symm⟩
 have hd:=q0v hf hk;rw [hn] at hd;refine h.set (n:=n) hn32 (e:=q0t s f sh) (by rw [← hto];rfl) rfl Ec ⟨by show (1:Int)≤2;omega,by show (2:Int)≤2;omega⟩ ?_;have e1:(q0t s f sh).at_=[]:=by rw [← hat.1,← hto];rfl
 have e2:(q0t s f sh).values=[]:=by rw [← hat.2,← hto];rfl
 refine ⟨q0u hf (.inr hk),hfi.1,hd.1,hfi.2,hd.2,fun h=>?_,fun _=>e1,by rw [e1,e2],by rw [e1];rfl⟩;have h:(2:Int)=1:=h;omega
theorem GoodN.commit {s:GNode} (h:GoodN s) {f:GFrame} (hf:qak f=0) (hk:f.kind=3) (sh:Int):GoodN (qgi s f sh):=by
 unfold qgi;by_cases h2:(eat s.entries f.id.toNat).state<2
 ·rw [qag (qaf h2)];exact (h.comm hf hk h2 sh).exec sh
 ·rw [qad (qae h2)];exact h
theorem qtp {v:Vector GEntry 32} {j:Int} (h0:0≤j) (h1:j<32):qa3 v j=some (eat v j.toNat):=by
 obtain ⟨n,rfl⟩:∃ n:Nat,j=n:=⟨j.toNat,by omega⟩;rw [qva Ec,Bg]
theorem qqr {fu:Nat} {x:Int}:qlx fu x=some (decide (0≤x∧x<6)):=by
 unfold qlx qii;by_cases h:x≥0
 ·rw [qag (qaf h)];congr 1;apply decide_eq_decide.2;omega
 ·rw [qad (qae h),qae Ec]
theorem qj9 {who sh:Int} {f:GFrame} {d:GNode} (hf:0≤f.id∧f.id<32):qeb who f sh d=some (d,qi2 sh who f.id d,0):=by
 unfold qeb qfr qfq qi2;have hb:Rep.bytes GFrame=120:=rfl;rw [qaa,qay hf.1 hf.2,qaa,qtp hf.1 hf.2,qaa,qaa];cases ((eat d.entries f.id.toNat).state==3)
 ·rfl
 ·simp only [cond_true,qaa,Aa];cases qah (eat d.entries f.id.toNat).ops sh
  ·rfl
  ·rw [cond_true,qbs (by rw [hb];simp)];rfl
theorem qka {fu:Nat} {s d:GNode} {who sh:Int} {f:GFrame} (hf:0≤f.id∧f.id<32) (hfu:120≤fu) (hg:GoodN (qvj s f sh))
 (hd:d.entries=s.entries.setIfInBounds f.id.toNat { eat s.entries f.id.toNat with first:=qo2 s f sh }) (ho:d.order=s.order) (hv:d.values=s.values) :
 qec fu who f sh d=some (qvh (qvj s f sh) sh,qi2 sh who f.id (qvh (qvj s f sh) sh),0):=by
 have hn:f.id.toNat<32:=by omega
 obtain ⟨n,hnn⟩:∃ n:Nat,f.id=n:=⟨f.id.toNat,by omega⟩;unfold qec;have e1:∀ (x:Vector GEntry 32),({ d with entries:=x }:GNode).entries=x:=fun _=>rfl;rw [qtp hf.1 hf.2,qaa,qbo hf.1 hf.2,qaa,qaa];rw [e1,qtp hf.1 hf.2,qaa,qd3 hn,if_pos rfl,qbo hf.1 hf.2,qaa,qaa];simp only [Aj];rw [qtp hf.1 hf.2,qaa,qd3 hn,if_pos rfl,qbo hf.1 hf.2,qaa,qaa];simp only [Aj];have hc:({ entries:=d.entries.setIfInBounds f.id.toNat { state:=2,ops:=f.ops,first:=(eat d.entries f.id.toNat).first,deps:=f.deps,at_:=(eat d.entries f.id.toNat).at_,values:=(eat d.entries f.id.toNat).values },order:=d.order,values:=d.values }:GNode)=qvj s f sh:=by
  unfold qvj q0t;rw [hd,ho,hv,qd3 hn,if_pos rfl];simp only [Aj]
 rw [hc,qto hg hfu,qaa,qaa,qj9 hf]
theorem qtq {v:Vector GEntry 32} {k:Nat} (hk:k<32):v.setIfInBounds k (eat v k)=v:=by
 refine q4v fun j hj=>?_;rw [qd3 hk];by_cases e:k=j
 ·rw [if_pos e,e]
 ·rw [if_neg e]
theorem qpp {fu:Nat} {s:GNode} {who:Int} {f:GFrame} {d:GNode} (hg:GoodN s) (hz:qak f=0) (hfu:120≤fu):qed fu s who f d=some (qpo s who f):=by
 obtain ⟨_,_,hf⟩:=qi0 hz;have hn:f.id.toNat<32:=by omega
 unfold qed qpo;rw [hz,qaa,qad (by rfl),qaa,qay hf.1 hf.2,qaa];cases h1:(f.kind==1)
 ·rw [cond_false,cond_false];cases h3:(f.kind==3)
  ·rfl
  ·rw [cond_true,cond_true,qtp hf.1 hf.2,qaa,qaa];unfold qgi;have hk:f.kind=3:=by simpa using h3
   by_cases h2:(eat s.entries f.id.toNat).state<2
   ·have hc:=hg.comm hz hk h2 (ofZ who);rw [qag (qaf h2),qag (qaf h2)];cases h0:((eat s.entries f.id.toNat).state==0)
    ·rw [cond_false];refine qka hf hfu hc ?_ rfl rfl;unfold qo2;rw [h0,cond_false];exact (qtq hn).symm
    ·rw [cond_true,qlj Ec,qaa,qaa,qbo hf.1 hf.2,qaa,qaa];refine qka hf hfu hc ?_ rfl rfl;unfold qo2;rw [h0,cond_true]
   ·rw [qad (qae h2),qad (qae h2),qj9 hf]
 ·rw [cond_true,cond_true,qaa];cases qah f.ops (ofZ who)
  ·rfl
  ·rw [qad (c := !true) rfl,cond_true,qtp hf.1 hf.2,qaa];unfold q3i;cases h0:((eat s.entries f.id.toNat).state==0)
   ·rw [cond_false,cond_false,qea,qtp hf.1 hf.2];rfl
   ·rw [cond_true,qlj Ec,qaa,qaa,qaa,qbo hf.1 hf.2,qaa,qaa,qea,qtp hf.1 hf.2];rfl
theorem qmt {fu N:Nat} {s:GNode} {who:Int} {f:GFrame} (hs:NSz s N) (h1:N+40≤fu) (hfu:120≤fu):qgp fu s who f=some (qde s who f):=by
 unfold qgp qde;rw [qth hs h1,qaa];cases hg:qvb s
 ·rfl
 ·have hg:=goodN_iff.1 hg;rw [qad (c := !true) rfl,qqr,qaa,Aa];cases decide (0≤who∧who<6)
  ·rfl
  ·rw [qad (c := !true) rfl,Aa];unfold qee;have hne:(f.node != who) = !(f.node==who):=rfl;rw [hne];cases (f.node==who)
   ·rfl
   ·rw [Af,cond_false,cond_true];cases hz:(qak f==0)
    ·unfold qed;have:(qak f != 0)=true:=by rw [bne,hz];rfl
     rw [qaa,this];rfl
    ·exact qpp hg (by simpa using hz) hfu
theorem qwn {m:Int}:∀ {l:List Int} {b:Int},qwg m b l=true→l=[]∨b+l.length<m
 | [],_,_ => .inl rfl
 | x::t,b,h=>by
  unfold qwg at h;simp only [Bool.and_eq_true,decide_eq_true_eq] at h;refine .inr ?_;rcases qwn h.2 with e | e
  ·subst e;simp;omega
  ·simp only [List.length_cons];omega
theorem GoodN.sizes {s:GNode} (h:GoodN s):NSz s 33:=by
 refine ⟨by have:=h.len;omega,fun k=>?_⟩;by_cases hk:k<32
 ·by_cases h0:(eat s.entries k).state=0
  ·obtain ⟨e1,e2,e3,e4,e5⟩:=h.empty hk h0;refine ⟨?_,?_,?_,?_,?_⟩
   ·rw [e1];simp
   ·rw [e2];simp
   ·rw [e3];simp
   ·rw [e4];simp
   ·rw [e5];simp
  ·have hb:=h.body hk h0;have h1:=qdk hb.ops;have h2:=qgw hb.first
   have h3:=qgw hb.deps;have h4:(eat s.entries k).at_.length≤4:=by
    rcases qwn hb.up with e | e
    ·rw [e];simp
    ·omega
   have h5:=hb.same;exact ⟨by omega,by omega,by omega,by omega,by omega⟩
 ·rw [q4w hk];have e:(Zr.zd:GEntry)={ state:=0,ops:=[],first:=[],deps:=[],at_:=[],values:=[] }:=rfl
  rw [e];exact ⟨by simp,by simp,by simp,by simp,by simp⟩
theorem NSz.mono {s:GNode} {N M:Nat} (h:NSz s N) (hNM:N≤M):NSz s M :=
 ⟨⟨by have:=h.order.1;omega,h.order.2⟩,fun k=>by
  have e:=h.ent k
  exact ⟨⟨by have:=e.ops.1;omega,e.ops.2⟩,⟨by have:=e.first.1;omega,e.first.2⟩,⟨by have:=e.deps.1;omega,e.deps.2⟩,⟨by have:=e.at_.1;omega,e.at_.2⟩,⟨by have:=e.values.1;omega,e.values.2⟩⟩⟩
def ql2:GNode:={ entries:=Zr.zd,order:=Zr.zd,values:=Zr.zd }
theorem q2k (k:Nat):eat (Zr.zd:Vector GEntry 32) k=Zr.zd:=by
 show eat (Vector.replicate 32 Zr.zd) k=Zr.zd;unfold eat;by_cases hk:k<32<;>simp [hk]
theorem qg0:GoodN ql2:=by
 refine ⟨List.nodup_nil,(by intro m hm;cases hm),fun k hk=>?_⟩;show qf3 k (eat (Zr.zd:Vector GEntry 32) k) (decide ((k:Int)∈([]:List Int)))=true;rw [q2k];rfl
def f9:GFrame:={ kind:=3,node:=3,id:=4,ops:=[{ kind:=2,key:=1,n:=9 }],deps:=[],at_:=[],vals:=[] }
theorem ESz.mono {e:GEntry} {N M:Nat} (h:ESz e N) (hNM:N≤M):ESz e M :=
 ⟨⟨by have:=h.ops.1;omega,h.ops.2⟩,⟨by have:=h.first.1;omega,h.first.2⟩,⟨by have:=h.deps.1;omega,h.deps.2⟩,⟨by have:=h.at_.1;omega,h.at_.2⟩,⟨by have:=h.values.1;omega,h.values.2⟩⟩
def q7i (l:List Int):Prop:=∀ c∈l,0≤c∧c<256
theorem qtr {n:Int} (h1 : -1099511627776≤n) (h2:n≤1099511627776):q3e ((n+140737488355328) / 1099511627776%256) ((n+140737488355328) / 4294967296%256) ((n+140737488355328) / 16777216%256) ((n+140737488355328) / 65536%256) ((n+140737488355328) / 256%256) ((n+140737488355328)%256)=n:=by
 unfold q3e;omega
theorem qwo {r:List Int}:∀ (os:List GOp),(∀ o∈os,-1099511627776≤o.n∧o.n≤1099511627776)→q2b os.length (os.flatMap qgf++r)=some (os,r)
 | [],_=>rfl
 | o::t,h=>by
  have h0:=h o Xk;have ih:=qwo (r:=r) t fun x hx=>h x (Xj _ hx);have e:(o::t).flatMap qgf++r=o.kind::o.key::(o.n+140737488355328) / 1099511627776%256::(o.n+140737488355328) / 4294967296%256::(o.n+140737488355328) / 16777216%256::(o.n+140737488355328) / 65536%256::(o.n+140737488355328) / 256%256::(o.n+140737488355328)%256::(t.flatMap qgf++r):=rfl;rw [e,Xy,q2b,ih,qtr h0.1 h0.2];rfl
theorem qwp {r:List Int}:∀ (ats vs:List Int),vs.length=ats.length→(∀ v∈vs,-1099511627776≤v∧v≤1099511627776)→q2c ats.length ((ats.zip vs).flatMap qc4++r)=some (ats,vs,r)
 | [],[],_,_=>rfl
 | [],_::_,h,_=>by simp at h
 | _::_,[],h,_=>by simp at h
 | a::ats,v::vs,hl,h=>by
  have h0:=h v Xk;have ih:=qwp (r:=r) ats vs (by simpa using hl) fun x hx=>h x (Xj _ hx);have e:((a::ats).zip (v::vs)).flatMap qc4++r=a::(v+140737488355328) / 1099511627776%256::(v+140737488355328) / 4294967296%256::(v+140737488355328) / 16777216%256::(v+140737488355328) / 65536%256::(v+140737488355328) / 256%256::(v+140737488355328)%256::((ats.zip vs).flatMap qc4++r):=rfl;rw [e,Xy,q2c,ih,qtr h0.1 h0.2];rfl
theorem q0w {f:GFrame} (hf:FOk f) (r:List Int):qs5 (qxk f++r)=some (f,r):=by
 have e:qxk f++r=f.kind::f.node::f.id::(f.ops.length:Int)::(f.ops.flatMap qgf++((f.deps.length:Int)::(f.deps++((f.at_.length:Int)::((f.at_.zip f.vals).flatMap qc4++r))))):=by
  unfold qxk;simp [X8]
 have h1:=qwo (r:=(f.deps.length:Int)::(f.deps++((f.at_.length:Int)::((f.at_.zip f.vals).flatMap qc4++r)))) f.ops fun o ho=>by have:=hf.op o ho;omega
 have h2:=qwp (r:=r) f.at_ f.vals hf.vals hf.val;have t1:((f.ops.length:Int)).toNat=f.ops.length:=rfl;have t2:((f.deps.length:Int)).toNat=f.deps.length:=rfl;have t3:((f.at_.length:Int)).toNat=f.at_.length:=rfl;rw [e,qs5,t1,h1];simp only [Dx];rw [q2e,t2,qz5,if_pos (by simp)];simp only [Dx];rw [List.take_left' rfl,List.drop_left' rfl,q2d,t3,h2];rfl
theorem q43 {l:List Int} (h:q7i l):byL (strOfNums l)=l:=by
 unfold byL;rw [strOfNums_data,D3];have:∀ x∈l,((fun b:UInt8=>(b.toNat:Int)) ∘ fun n:Int=>UInt8.ofNat n.toNat) x=x:=by
  intro x hx;have:=h x hx;show (((UInt8.ofNat x.toNat).toNat:Nat):Int)=x;rw [UInt8.toNat_ofNat_of_lt' (by show x.toNat<256;omega)];omega
 rw [List.map_congr_left this];simp
theorem q0x {f:GFrame} (hf:FOk f):q7i (qxk f)∧(qxk f).length≤100:=by
 have six:∀ (n c:Int),c∈qyd n→0≤c∧c<256:=by
  intro n c hc;unfold qyd at hc;simp only [Xm,Bh,or_false] at hc;omega
 have hlen6:∀ n,(qyd n).length=6:=fun n=>rfl;have h1:∀ (os:List GOp),(os.flatMap qgf).length=8*os.length:=by
  intro os
  induction os with
  | nil=>rfl
  | cons o t ih =>
   have e0:qgf o=[o.kind,o.key]++qyd o.n:=rfl;rw [Aw,Xp,ih,e0];simp [hlen6];omega
 have h2:∀ (zs:List (Int × Int)),(zs.flatMap qc4).length=7*zs.length:=by
  intro zs
  induction zs with
  | nil=>rfl
  | cons z t ih =>
   have e0:qc4 z=z.1::qyd z.2:=rfl;rw [Aw,Xp,ih,e0];simp [hlen6];omega
 have hh:=hf.head;have ho:=hf.ops;have hd:=hf.deps;have ha:=hf.at_;refine ⟨fun c hc=>?_,?_⟩
 ·unfold qxk at hc;simp only [Xr,Xm,Bh,or_false,List.mem_flatMap] at hc;rcases hc with (h | h | h | h) | ⟨o,h,hx⟩ | h | h | h | ⟨z,h,hx⟩
  ·omega
  ·omega
  ·omega
  ·omega
  ·have:=hf.op o h;have e0:qgf o=[o.kind,o.key]++qyd o.n:=rfl;rw [e0] at hx;simp only [Xr,Xm,Bh,or_false] at hx;rcases hx with (h | h) | h
   ·omega
   ·omega
   ·exact six _ _ h
  ·omega
  ·have:=hf.dep c h;omega
  ·omega
  ·have e0:qc4 z=z.1::qyd z.2:=rfl;rw [e0] at hx;rcases Xm.1 hx with h3 | h3
   ·have:=hf.ats z.1 (List.of_mem_zip h).1;omega
   ·exact six _ _ h3
 ·unfold qxk;simp only [Xp,Xy,Bk,h1,h2,List.length_zip];omega
theorem qx2 (l:List Int):(∃ f,qs5 l=some (f,[])∧qak f=0∧qod l=(f,0))∨qod l=(noF,1):=by
 unfold qod
 match h:qs5 l with
 | none=>exact .inr rfl
 | some (f,[]) =>
  by_cases hz:qak f=0
  ·left;refine ⟨f,rfl,hz,?_⟩;show (bif qak f==0 then (f,0) else (noF,(1:Int)))=_;rw [hz];rfl
  ·right;have e2:(qak f==0)=false:=by simp [hz]
   show (bif qak f==0 then (f,0) else (noF,(1:Int)))=_;rw [e2];rfl
 | some (f,_::_)=>exact .inr rfl
end Go.Proofs.Yteilffoclpgijaa
