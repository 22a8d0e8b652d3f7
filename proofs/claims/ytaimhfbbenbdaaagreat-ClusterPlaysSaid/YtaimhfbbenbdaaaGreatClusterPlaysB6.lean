/- What the proof of ClusterPlays rests on, part 6: rules of walks, what functions compute, and plain laws of it. -/
import Derived.Test.YtaimhfbbenbdaaaGreatClusterPlaysB5
namespace Go.Proofs.YtaimhfbbenbdaaaGreat
open Go.RowKit
open Rep (rep)
abbrev Ed := @List.eraseIdx_eq_take_drop_succ
abbrev B8 := @List.mem_of_mem_eraseIdx
abbrev D6 := @List.length_eraseIdx_le
section
variable {α : Type} [Rep α] [Zr α] {n:Nat}
def qay (v:Vector α n) (k:Nat) : α := v[k]?.getD Zr.zd
theorem qkh {v:Vector α n} {j:Int} (h0:0≤j) (h1:j<n):qam v j=some (qay v j.toNat):=by
 have h:j.toNat<n:=by omega
 unfold qam qay;rw [if_pos h0];simp [h]
theorem qe7 {v:Vector α n} {k j:Nat} {x : α} (hk:k<n):qay (v.setIfInBounds k x) j=if k=j then x else qay v j:=by
 unfold qay;rw [Vector.getElem?_setIfInBounds];by_cases e:k=j
 ·rw [if_pos e,if_pos e,if_pos hk];rfl
 ·rw [if_neg e,if_neg e]
theorem qju [Pos α] (k:Nat):qay (Zr.zd:Vector α n) k=Zr.zd:=by
 show qay (Vector.replicate n Zr.zd) k=Zr.zd;unfold qay;by_cases hk:k<n<;>simp [hk]
end
def qsc (e:Int):GReply:={ code:=e,n:=0,values:=[] }
def okR (n:Int) (v:List Int):GReply:={ code:=0,n:=n,values:=v }
def qki:List ByteArray→List GFrame→List ByteArray
 | net,[]=>net
 | net,f::t=>qki (bif qaf f==0&&decide (net.length<60) then net++[(q1q f).1] else net) t
theorem q9z (f:GFrame):(q1q f).2=qaf f:=by
 unfold q1q;split
 ·rename_i h;exact h.symm
 ·rfl
theorem qrz (f:GFrame):(q1q f).1.size≤100:=by
 by_cases h:qaf f=0
 ·exact (q9y h).2.2
 ·unfold q1q;rw [if_neg h];show (strOfNums []).size≤100;have:(strOfNums []).size=0:=rfl;omega
theorem qtx {fu:Nat} (hfu:40≤fu) {l:List GFrame} (hl:l.length≤1000) {c:GCluster}:∀ (n m k:Nat) (net:List ByteArray),l.length=k+m→m<n→qez fu l n c net k=some (c,qki net (l.drop k))
 | 0,m,k,_,_,h=>absurd h Gf
 | n+1,0,k,net,hk,_=>by
  rw [qez,qad (qab Gf),List.drop_of_length_le Gf];rfl
 | n+1,m+1,k,net,hk,hn=>by
  have hb:Rep.bytes ByteArray=16:=rfl;have hlt:k<l.length:=by omega
  have ih:=fun net=>qtx hfu hl (c:=c) n m (k+1) net Gf Gf;rw [qez,qae (qac Gf),qap,X7 hlt,qaa,qaa,q6q _ hfu,qaa,Ad hlt,q9z];generalize l[k]=f;simp only [qm9,qm8,zg1 k Gf,qki];have hs:=qrz f;cases h1:(qaf f==0)
  ·rw [cond_false,cond_false,Da,cond_false,ih]
  ·rw [cond_true,Aq];by_cases h2:net.length<60
   ·rw [qac Gf,qac h2,cond_true,cond_true,qfw Gf,qaa,qas (by rw [hb];simp only [At];omega),qaa,qaa];exact ih _
   ·rw [qab Gf,qab h2,cond_false,cond_false,ih]
theorem qou {fu:Nat} (hfu:1100≤fu) {l:List GFrame} (hl:l.length≤1000) {c:GCluster} {net:List ByteArray}:qp3 fu c net l=some (c,qki net l) :=
 qtx Gf hl fu l.length 0 net Gf Gf
theorem qqa:∀ (l:List GFrame) (net:List ByteArray),net.length≤60→(∀ s∈net,s.size≤400)→(qki net l).length≤60∧∀ s∈qki net l,s.size≤400
 | [],net,h1,h2=>⟨h1,h2⟩
 | f::t,net,h1,h2=>by
  rw [qki];cases hb:(qaf f==0&&decide (net.length<60))
  ·exact qqa t net h1 h2
  ·simp only [Bool.and_eq_true,decide_eq_true_eq] at hb;refine qqa t _ (by simp;omega) fun s hs=>?_;rcases List.mem_append.1 hs with hs | hs
   ·exact h2 s hs
   ·rw [List.mem_singleton.1 hs];have:=qrz f;omega
structure CInv (c:GCluster) (net:List ByteArray):Prop where
 acts:0≤c.acts∧c.acts≤400
 begun:0≤c.begun∧c.begun≤32
 node:∀ n,n<6→GoodN (qay c.nodes n)
 down:∀ n,n<6→qay c.down n=true→qay c.nodes n=zeroN
 log:∀ n,n<6→(qay c.logs n).size≤65536
 tear:∀ n,n<6→0≤qay c.tear n∧qay c.tear n≤401
 cas:∀ n,n<32→qdz (qay c.cases n)=true
 net:net.length≤60∧∀ s∈net,s.size≤400
def q2m (c:GCluster) (x:Int):GReply:=okR x (qes (qay c.cases x.toNat)).1
theorem qys {fu:Nat} (hfu:7≤fu) {c:GCluster} {x:Int} (h0:0≤x) (h1:x<32):qsk fu c x=some (q2m c x):=by
 unfold qsk;rw [qaj h0 h1,qaa,qkh h0 h1,qaa,qw8 hfu,qaa,qaa,qaa];rfl
def begC (c:GCluster) (ops:List GOp):GCluster:={ c with cases:=c.cases.setIfInBounds c.begun.toNat (qer { id:=c.begun,ops:=ops }).1,begun:=c.begun+1 }
def q90 (c:GCluster) (net:List ByteArray) (ops:List GOp):GReply × GCluster × List ByteArray :=
 bif decide (c.begun≥32) then (qsc 5,c,net) else
 bif (qer { id:=c.begun,ops:=ops }).2.2 != 0 then (qsc (qer { id:=c.begun,ops:=ops }).2.2,c,net) else
 (okR c.begun [],begC c ops,qki net (qer { id:=c.begun,ops:=ops }).2.1)
theorem qyt (t:GTxn):(qer t).2.1.length≤6:=by
 unfold qer;cases decide (0≤t.id∧t.id<32)
 ·simp
 ·cases qak t.ops
  ·simp
  ·exact againC_small.1
theorem q4j {fu:Nat} (hfu:1100≤fu) {c:GCluster} {net:List ByteArray} (h:CInv c net) {ops:List GOp}:qq5 fu c net ops=some (q90 c net ops):=by
 obtain ⟨h0,h1⟩:=h.begun;unfold qq5 q90;by_cases h32:c.begun≥32
 ·rw [qae (qac h32),qae (qac h32)];rfl
 ·rw [qad (qab h32),qad (qab h32),qaa,qz1 Gf,qaa,qaa];cases hc:((qer { id:=c.begun,ops:=ops }).2.2 != 0)
  ·have hl:=qyt { id:=c.begun,ops:=ops };rw [cond_false,cond_false,qaj h0 Gf,qaa,qkh h0 Gf,qaa,qar h0 Gf,qaa,qaa];have e1:Gr (c.begun+1)=c.begun+1:=qa3 Gf Gf;have e2:∀ (x:Vector GCase 32),({ c with cases:=x }:GCluster).begun=c.begun:=fun _=>rfl;rw [e2,e1,qaa,qou hfu Gf,qaa];dsimp only;have e3:Gr (c.begun+1-1)=c.begun:=by rw [qa3 Gf Gf];omega
   rw [e3];rfl
  ·rfl
def q66 (c:GCluster) (n:Nat):GCluster:={ c with nodes:=c.nodes.setIfInBounds n zeroN,down:=c.down.setIfInBounds n true,tear:=c.tear.setIfInBounds n 0 }
noncomputable def qfr (c:GCluster) (net:List ByteArray) (n:Nat) (f:GFrame) (s:ByteArray):Int × GCluster × List ByteArray :=
 bif qay c.down n then (6,c,net) else
 bif (qcs (qay c.nodes n) n f).2.2 != 0 then ((qcs (qay c.nodes n) n f).2.2,c,net) else
 bif decide (qay c.tear n>0) then (6,q66 { c with logs:=c.logs.setIfInBounds n (qw2 (qay c.logs n) s (qay c.tear n-1)) } n,net) else
 bif qdy (qay c.logs n) s != 0 then (qdy (qay c.logs n) s,{ c with logs:=c.logs.setIfInBounds n (qw1 (qay c.logs n) s) },net) else
 (0,{ c with logs:=c.logs.setIfInBounds n (qw1 (qay c.logs n) s),nodes:=c.nodes.setIfInBounds n (qcs (qay c.nodes n) n f).1 },qki net (qcs (qay c.nodes n) n f).2.1)
theorem qs0 {log s:ByteArray} {n:Int} (h:log.size≤65536):(qw2 log s n).size≤65536:=by
 unfold qw2;split
 ·rename_i hc;have hs:=qn9 log s;rcases qt9 log s with ⟨_,_,_,h4⟩ | ⟨h0,_⟩
  ·rw [Br];omega
  ·exact absurd hc h0
 ·exact h
theorem qr0 {log s:ByteArray} (h:log.size≤65536):(qw1 log s).size≤65536:=by
 have hs:=qn9 log s;rcases qt9 log s with ⟨h0,_,_,h4⟩ | ⟨_,h1⟩
 ·unfold qw1;rw [if_pos h0];omega
 ·rw [h1];exact h
theorem q2n {s:GNode} {who:Int} {f:GFrame}:(qcs s who f).2.1.length≤100:=by
 by_cases h:(qcs s who f).2.2=0
 ·exact (q4i h).1
 ·rw [(q5u h).2];simp
theorem q67 {fu:Nat} (hfu:1100≤fu) {c:GCluster} {net:List ByteArray} (h:CInv c net) {x:Int} (h0:0≤x) (h6:x<6) {f:GFrame} {s:ByteArray} (hs:s.size≤400):qvi fu c net x f s=some (qfr c net x.toNat f s):=by
 have hn:x.toNat<6:=by omega
 have ex:((x.toNat:Nat):Int)=x:=by omega
 have hg:=h.node _ hn;have hlog:=h.log _ hn;have ht:=h.tear _ hn;unfold qvi qfr;rw [qaj h0 h6,qaa,qkh h0 h6,qaa,ex];cases qay c.down x.toNat
 ·rw [cond_false,cond_false,qaa,qkh h0 h6,qaa,qtv hg.sizes Gf Gf,qaa,qaa];have hl:=q2n (s:=qay c.nodes x.toNat) (who:=x) (f:=f);unfold qq6;cases h1:((qcs (qay c.nodes x.toNat) x f).2.2 != 0)
  ·rw [cond_false,cond_false,qaj h0 h6,qaa,qkh h0 h6,qaa];by_cases h2:qay c.tear x.toNat>0
   ·rw [qae (qac h2),qae (qac h2),qaa,qkh h0 h6,qaa,qaa,qaa,qa3 Gf Gf,q6r Gf,qaa,qaa,qfw (by have:=qs0 (s:=s) (n:=qay c.tear x.toNat-1) hlog;omega),qaa,qaa,qar h0 h6,qaa,qaa,qaa,qaa,
     qkh h0 h6,qaa,qar h0 h6,qaa,qaa,qaa,qkh h0 h6,qaa,qar h0 h6,qaa,qaa,qaa,qkh h0 h6,qaa,qar h0 h6,qaa,qaa]
    rfl
   ·rw [qad (qab h2),qad (qab h2),qaa,qkh h0 h6,qaa,qvr Gf,qaa,qaa,qfw (by have:=qr0 (s:=s) hlog;dsimp only;omega),qaa,qaa,qar h0 h6,qaa,qaa];cases h3:(qdy (qay c.logs x.toNat) s != 0)
    ·rw [cond_false,cond_false,qaa,qkh h0 h6,qaa,qar h0 h6,qaa,qaa,qou hfu Gf,qaa]
    ·rfl
  ·rfl
 ·rfl
noncomputable def frm2 (c:GCluster) (net:List ByteArray) (kind:Int) (f:GFrame) (s:ByteArray):GReply × GCluster × List ByteArray :=
 bif kind==4 then (okR f.id [],c,net) else
 bif f.kind==1||f.kind==3 then
  (bif (qfr c net f.node.toNat f s).1 != 0 then qsc (qfr c net f.node.toNat f s).1 else okR f.id [],(qfr c net f.node.toNat f s).2.1,(qfr c net f.node.toNat f s).2.2)
 else
  bif (qby (qay c.cases f.id.toNat) f.id f).2.2 != 0 then (qsc (qby (qay c.cases f.id.toNat) f.id f).2.2,c,net)
  else (q2m { c with cases:=c.cases.setIfInBounds f.id.toNat (qby (qay c.cases f.id.toNat) f.id f).1 } f.id,{ c with cases:=c.cases.setIfInBounds f.id.toNat (qby (qay c.cases f.id.toNat) f.id f).1 },qki net (qby (qay c.cases f.id.toNat) f.id f).2.1)
def qjv (net:List ByteArray) (x:Int):ByteArray:=net[x.toNat]?.getD ⟨#[]⟩
def qfd (net:List ByteArray) (x:Int):GFrame:=(qo0 (byL (qjv net x))).1
noncomputable def q0d (c:GCluster) (net:List ByteArray) (a:GAct):GReply × GCluster × List ByteArray :=
 bif decide (0≤a.n∧a.n<net.length) then frm2 c (bif a.kind==3 then net else net.eraseIdx a.n.toNat) a.kind (qfd net a.n) (qjv net a.n) else (qsc 4,c,net)
theorem q91 (l:List Int):(0≤(qo0 l).1.node∧(qo0 l).1.node<6)∧(0≤(qo0 l).1.id∧(qo0 l).1.id<32):=by
 rcases q65 l with ⟨f,_,hz,h⟩ | h
 ·rw [h];exact (qds hz).2
 ·rw [h];exact ⟨⟨by show (0:Int)≤0;omega,by show (0:Int)<6;omega⟩,⟨by show (0:Int)≤0;omega,by show (0:Int)<32;omega⟩⟩
theorem CInv.cut {c:GCluster} {net net':List ByteArray} (h:CInv c net) (hs:∀ s∈net',s∈net) (hl:net'.length≤net.length):CInv c net' :=
 ⟨h.acts,h.begun,h.node,h.down,h.log,h.tear,h.cas,by have:=h.net.1;omega,fun s hm=>h.net.2 s (hs s hm)⟩
theorem qr1 {fu:Nat} (hfu:1100≤fu) {c:GCluster} {net:List ByteArray} (h:CInv c net) {a:GAct} {s:ByteArray} (hs:s.size≤400) {d:GReply}:qiw fu a d s c net=some (frm2 c net a.kind (qo0 (byL s)).1 s):=by
 obtain ⟨⟨n0,n6⟩,i0,i32⟩:=q91 (byL s);unfold qiw frm2;rw [qx9 Gf Gf,qaa,qaa];generalize (qo0 (byL s)).1=f at n0 n6 i0 i32;cases h4:(a.kind==4)
 ·have hcome:qfk fu d s c net f true=some (bif (qfr c net f.node.toNat f s).1 != 0 then qsc (qfr c net f.node.toNat f s).1 else okR f.id [],(qfr c net f.node.toNat f s).2.1,(qfr c net f.node.toNat f s).2.2):=by
   rw [qfk,cond_true,q67 hfu h n0 n6 hs,qaa];cases ((qfr c net f.node.toNat f s).1 != 0)<;>rfl
  have htake:qfk fu d s c net f false=some (bif (qby (qay c.cases f.id.toNat) f.id f).2.2 != 0 then (qsc (qby (qay c.cases f.id.toNat) f.id f).2.2,c,net)
   else (q2m { c with cases:=c.cases.setIfInBounds f.id.toNat (qby (qay c.cases f.id.toNat) f.id f).1 } f.id,{ c with cases:=c.cases.setIfInBounds f.id.toNat (qby (qay c.cases f.id.toNat) f.id f).1 },qki net (qby (qay c.cases f.id.toNat) f.id f).2.1)):=by
   have hl:=(qwa (c:=qay c.cases f.id.toNat) (id:=f.id) (f:=f)).2.1
   rw [qfk,cond_false,qoo,qaj i0 i32,qaa,qkh i0 i32,qaa,q2d Gf,qaa,qaa,qon]
   cases ((qby (qay c.cases f.id.toNat) f.id f).2.2 != 0)
   ·rw [cond_false,cond_false,qaj i0 i32,qaa,qkh i0 i32,qaa,qar i0 i32,qaa,qaa,qou hfu Gf,qaa,qys Gf i0 i32,qaa,qaa]
   ·rfl
  rw [cond_false,cond_false];cases h1:(f.kind==1)
  ·rw [cond_false,Bi];cases h3:(f.kind==3)
   ·rw [htake];rfl
   ·rw [hcome];rfl
  ·rw [cond_true,hcome];rfl
 ·rfl
theorem q4k {fu:Nat} (hfu:1100≤fu) {c:GCluster} {net:List ByteArray} (h:CInv c net) {a:GAct}:qq7 fu c net a=some (q0d c net a):=by
 obtain ⟨hn1,hn2⟩:=h.net;unfold qq7 q0d qk5;by_cases h0:a.n<0
 ·rw [qae (qac h0),qab (show ¬ (0≤a.n∧a.n<net.length) by omega)];rfl
 ·rw [qad (qab h0)];by_cases h1:a.n≥(net.length:Int)
  ·rw [qac h1,qab (show ¬ (0≤a.n∧a.n<net.length) by omega)];rfl
  ·rw [qab h1,qac (show 0≤a.n∧a.n<net.length by omega),cond_false,cond_true,qop];have hlt:a.n.toNat<net.length:=by omega
   have hi:idx net a.n=some (qjv net a.n):=by
    unfold idx qjv;rw [if_pos Gf];simp [hlt]
   have hsz:(qjv net a.n).size≤400:=by
    unfold qjv;rw [X7 hlt];exact hn2 _ (A2 hlt)
   have hk3:(a.kind != 3) = !(a.kind==3):=rfl;rw [hi,qaa,hk3];cases a.kind==3
   ·have hd:zeg net a.n (Gr (a.n+1))=some (net.eraseIdx a.n.toNat):=by
     rw [qa3 Gf Gf];unfold zeg;rw [if_pos Gf,Ed];have:(a.n+1).toNat=a.n.toNat+1:=by omega
     rw [this]
    rw [Ap,cond_true,cond_false,hd,qaa,qaa];exact qr1 hfu (h.cut (fun s hs=>B8 hs) (D6 ..)) hsz
   ·rw [Aj,cond_false,cond_true];exact qr1 hfu h hsz
noncomputable def q68 (c:GCluster) (n:Nat):GCluster:={ c with logs:=c.logs.setIfInBounds n ((qay c.logs n).extract 0 (qb5 (qay c.logs n).data.toList).2),nodes:=c.nodes.setIfInBounds n (qgb n (qb5 (qay c.logs n).data.toList).1 zeroN).1,down:=c.down.setIfInBounds n false }
def q2o (a:GAct):Bool:=decide (0≤a.n∧a.n<6) && !(a.kind==7 && !decide (0≤a.m∧a.m≤400))
noncomputable def q5v (c:GCluster) (net:List ByteArray) (a:GAct):GReply × GCluster × List ByteArray :=
 bif q2o a then
  bif !(qay c.down a.n.toNat==(a.kind==8)) then (qsc 6,c,net) else
  bif a.kind==7 then (qsc 0,{ c with tear:=c.tear.setIfInBounds a.n.toNat (a.m+1) },net) else
  bif a.kind==6 then (qsc 0,q66 c a.n.toNat,net) else (qsc 0,q68 c a.n.toNat,net)
 else (qsc 2,c,net)
theorem qr2 {fu:Nat} (hfu:70000≤fu) {c:GCluster} {net:List ByteArray} (h:CInv c net) {a:GAct} (h0:0≤a.n) (h6:a.n<6) (hm:(a.kind==7)=true→0≤a.m∧a.m≤400):qdu fu c net a false =
 some (bif !(qay c.down a.n.toNat==(a.kind==8)) then (qsc 6,c,net) else bif a.kind==7 then (qsc 0,{ c with tear:=c.tear.setIfInBounds a.n.toNat (a.m+1) },net) else bif a.kind==6 then (qsc 0,q66 c a.n.toNat,net) else (qsc 0,q68 c a.n.toNat,net)):=by
 have hn:a.n.toNat<6:=by omega
 have ex:((a.n.toNat:Nat):Int)=a.n:=by omega
 have hlog:=h.log _ hn;unfold qdu;rw [cond_false,qaj h0 h6,qaa,qkh h0 h6,qaa];cases hd:(!(qay c.down a.n.toNat==(a.kind==8)))
 ·rw [cond_false,cond_false];cases h7:(a.kind==7)
  ·rw [cond_false,cond_false];cases h6k:(a.kind==6)
   ·obtain ⟨r1,r2,r3⟩:=qp5 _ (qay c.logs a.n.toNat).data.toList (Ai _);have hdl:(qay c.logs a.n.toNat).data.toList.length=(qay c.logs a.n.toNat).size:=rfl;have hcut:qs7 (qay c.logs a.n.toNat) none (some ((qb5 (qay c.logs a.n.toNat).data.toList).2:Int))=some ((qay c.logs a.n.toNat).extract 0 (qb5 (qay c.logs a.n.toNat).data.toList).2):=by
     unfold qs7 qhk;simp only [Am,Bp];rw [if_pos Gf,Di];rfl
    have hrep:qg1 fu a.n (qb5 (qay c.logs a.n.toNat).data.toList).1=some (qgb a.n (qb5 (qay c.logs a.n.toNat).data.toList).1 zeroN):=by
     rw [qxe Gf Gf (fun x hx=>by have:=r3 x hx;omega),qac (show 0≤a.n∧a.n<6 from ⟨h0,h6⟩),cond_true]
    rw [cond_false,cond_false,qaa,qkh h0 h6,qaa,q6s hlog Gf,qaa,qaa,qaa,hcut,qaa,qaa,qfw (by rw [Br];omega),qaa,qaa,qar h0 h6,qaa,qaa,
     hrep,qaa,qaa,qkh h0 h6,qaa,qar h0 h6,qaa,qaa,qaa,qkh h0 h6,qaa,qar h0 h6,qaa,qaa]
    unfold qix q68;rw [ex];rfl
   ·rw [cond_true,cond_true,qaa,qaa,qkh h0 h6,qaa,qar h0 h6,qaa,qaa,qaa,qkh h0 h6,qaa,qar h0 h6,qaa,qaa,qaa,qkh h0 h6,qaa,qar h0 h6,qaa,qaa];rfl
  ·have:=hm h7;rw [cond_true,cond_true,qaa,qkh h0 h6,qaa,qa3 Gf Gf,qar h0 h6,qaa,qaa];rfl
 ·rfl
theorem q4l {fu:Nat} (hfu:70000≤fu) {c:GCluster} {net:List ByteArray} (h:CInv c net) {a:GAct}:qq8 fu c net a=some (q5v c net a):=by
 have hno:qdu fu c net a true=some (qsc 2,c,net):=rfl;unfold qq8 q5v q2o;by_cases h0:a.n<0
 ·rw [qae (qac h0),qab (show ¬ (0≤a.n∧a.n<6) by omega),hno];rfl
 ·rw [qad (qab h0)];by_cases h6:a.n≥6
  ·rw [qae (qac h6),qab (show ¬ (0≤a.n∧a.n<6) by omega),hno];rfl
  ·rw [qad (qab h6),qac (show 0≤a.n∧a.n<6 by omega),Aq];cases h7:(a.kind==7)
   ·rw [cond_false,Da,Ap,cond_true,qr2 hfu h Gf Gf (fun e=>by rw [h7] at e;cases e),h7]
   ·rw [cond_true,Aq];by_cases m0:a.m<0
    ·rw [qae (qac m0),qab (show ¬ (0≤a.m∧a.m≤400) by omega),hno];rfl
    ·rw [qad (qab m0)];by_cases m4:a.m>400
     ·rw [qac m4,qab (show ¬ (0≤a.m∧a.m≤400) by omega),hno];rfl
     ·rw [qab m4,qac (show 0≤a.m∧a.m≤400 by omega),qr2 hfu h Gf Gf (fun _=>by omega),h7];rfl
def zd5 (c:GCluster) (net:List ByteArray) (a:GAct):GReply × GCluster × List ByteArray :=
 bif decide (0≤a.n∧a.n<c.begun) then (q2m c a.n,c,qki net (qj6 (qay c.cases a.n.toNat) a.n)) else (qsc 4,c,net)
noncomputable def doA (c:GCluster) (net:List ByteArray) (a:GAct):GReply × GCluster × List ByteArray :=
 bif a.kind==1 then q90 c net a.ops else
 bif a.kind==2||(a.kind==3||a.kind==4) then q0d c net a else
 bif a.kind==5 then zd5 c net a else
 bif a.kind==6||(a.kind==7||a.kind==8) then q5v c net a else (qsc 3,c,net)
noncomputable def q4m (c:GCluster) (net:List ByteArray) (a:GAct):GReply × GCluster × List ByteArray :=
 bif decide (c.acts≥400) then (qsc 5,c,net) else doA { c with acts:=c.acts+1 } net a
theorem CInv.act {c:GCluster} {net:List ByteArray} (h:CInv c net) (ha:¬ c.acts≥400):CInv { c with acts:=c.acts+1 } net :=
 ⟨by have:=h.acts;exact ⟨by show 0≤c.acts+1;omega,by show c.acts+1≤400;omega⟩,h.begun,h.node,h.down,h.log,h.tear,h.cas,h.net⟩
theorem q69 {fu:Nat} (hfu:70000≤fu) {c:GCluster} {net:List ByteArray} (h:CInv c net) {a:GAct} (h0:0≤a.n) (h1:a.n<c.begun) {d:GReply}:qvj fu net a c d=some (q2m c a.n,c,qki net (qj6 (qay c.cases a.n.toNat) a.n)):=by
 have:=h.begun.2;have hl:=(againC_small (c:=qay c.cases a.n.toNat) (id:=a.n)).1;unfold qvj;rw [qaj h0 Gf,qaa,qkh h0 Gf,qaa,qv9 Gf,qaa,qou Gf Gf,qaa,qys Gf h0 Gf,qaa,qaa]
theorem zbq {fu:Nat} (hfu:70000≤fu) {c:GCluster} {net:List ByteArray} (h:CInv c net) {a:GAct}:q9e fu c net a=some (q4m c net a):=by
 unfold q9e q4m;by_cases ha:c.acts≥400
 ·rw [qae (qac ha),qae (qac ha)];rfl
 ·have hi:=h.act ha;have hacts:=h.acts;rw [qad (qab ha),qad (qab ha),qa3 Gf Gf,qaa];generalize ({ c with acts:=c.acts+1 }:GCluster)=d at hi;unfold doA;have hfr:∀ (b:Bool),b=true→qna fu net a d b=some (q0d d net a):=fun b hb=>by
   rw [qna,hb,cond_true,q4k Gf hi];rfl
  have hpo:∀ (b:Bool),b=true→qp4 fu net a d b=some (q5v d net a):=fun b hb=>by
   rw [qp4,hb,cond_true,q4l hfu hi];rfl
  cases k1:(a.kind==1)
  ·rw [cond_false,cond_false];cases k2:(a.kind==2)
   ·rw [cond_false,Bi];cases k3:(a.kind==3)
    ·rw [cond_false,Bi];cases k4:(a.kind==4)
     ·rw [cond_false,qna,cond_false];cases k5:(a.kind==5)
      ·rw [cond_false,cond_false];cases k6:(a.kind==6)
       ·rw [cond_false,Bi];cases k7:(a.kind==7)
        ·rw [cond_false,Bi];cases k8:(a.kind==8)
         ·rfl
         ·rw [hpo true rfl];rfl
        ·rw [hpo true rfl];rfl
       ·rw [hpo true rfl];rfl
      ·rw [cond_true,cond_true];unfold zd5 qvk;by_cases n0:a.n<0
       ·rw [qae (qac n0),qab (show ¬ (0≤a.n∧a.n<d.begun) by omega)];rfl
       ·rw [qad (qab n0)];by_cases nb:a.n≥d.begun
        ·rw [qac nb,qab (show ¬ (0≤a.n∧a.n<d.begun) by omega)];rfl
        ·rw [qab nb,qac (show 0≤a.n∧a.n<d.begun by omega),cond_false,cond_true];exact q69 hfu hi Gf Gf
     ·rw [hfr true rfl];rfl
    ·rw [cond_true,hfr true rfl];rfl
   ·rw [cond_true,hfr true rfl];rfl
  ·rw [cond_true,cond_true,q4j Gf hi,qaa,qaa]
theorem q2p (a b:List Int):qan (qmd a b)=true:=(qw0 a b 32 Gf).1
structure Gathers (t:GTxn) (told:Vector Bool 6) (c:GCase) (deps:List Int):Prop where
 htold:c.told=told
 hdeps:c.deps=deps
 hops:c.ops=t.ops
 small:deps.length≤32
 enough:c.fixed=true→qg8 c=true
theorem q2q {c d:GCase} (h1:c.ops=d.ops) (h2:c.told=d.told):qg8 c=qg8 d:=by unfold qg8;rw [h1,h2]
theorem Gathers.same {t:GTxn} {told:Vector Bool 6} {c d:GCase} {deps:List Int} (h:Gathers t told c deps) (h1:d.told=c.told) (h2:d.deps=c.deps) (h3:d.ops=c.ops) (h4:d.fixed=c.fixed):Gathers t told d deps :=
 ⟨h1.trans h.htold,h2.trans h.hdeps,h3.trans h.hops,h.small,fun hf=>by rw [q2q h3 h1];exact h.enough (by rw [← h4];exact hf)⟩
structure OfTxn (t:GTxn) (c:GCase):Prop where
 begun:c.begun=true
 ops:c.ops=t.ops
 good:qak t.ops=true
 none:c.fixed=false→∀ k,qaw c.has k=false
theorem q92 (k:Int):qa6 k=0∨qa6 k=1:=by
 unfold qa6;split
 ·exact .inl rfl
 ·exact .inr rfl
theorem qs1 {has:Nat→Bool} {s:Int}:∀ (l:List GOp) (k:Nat),qo8 has s l k=true→∀ i o,l[i]? = some o→qa6 o.key=s→has (k+i)=true
 | [],_,_,i,o,h,_=>by simp at h
 | a::t,k,h,i,o,hi,hs=>by
  rw [qo8] at h;cases hb:(qa6 a.key==s && !has k) with
  | true=>rw [hb] at h;cases h
  | false =>
   rw [hb] at h;cases i with
   | zero =>
    cases hi;have e:(qa6 a.key==s)=true:=by simp [hs]
    rw [e,Aq] at hb;simpa using hb
   | succ i =>
    have:=qs1 t (k+1) h i o hi hs;rw [show k+(i+1)=k+1+i from by omega];exact this
theorem qyu {c:GCase} (h0:qeq c 0=true) (h1:qeq c 1=true) {i:Nat} (hi:i<c.ops.length):qaw c.has i=true:=by
 have hx:c.ops[i]? = some c.ops[i]:=by simp
 rcases q92 c.ops[i].key with h | h
 ·have:=qs1 c.ops 0 h0 i _ hx h;rwa [B7] at this
 ·have:=qs1 c.ops 0 h1 i _ hx h;rwa [B7] at this
theorem qs2 {c:GCase} (h:(qes c).2=true):c.begun=true∧qdz c=true∧qeq c 0=true∧qeq c 1=true∧(qes c).1=c.values.toList.take c.ops.length:=by
 unfold qes at h ⊢;cases h1:c.begun&&(qdz c&&(qeq c 0&&qeq c 1)) with
 | false=>rw [h1] at h;cases h
 | true =>
  simp only [X9] at h1;exact ⟨h1.1,h1.2.1,h1.2.2.1,h1.2.2.2,rfl⟩
theorem OfTxn.len {t:GTxn} {c:GCase} (h:OfTxn t c):0<c.ops.length∧c.ops.length≤4:=by
 rw [h.ops];exact qdh h.good
theorem OfTxn.fixed {t:GTxn} {c:GCase} (h:OfTxn t c) (hr:(qes c).2=true):c.fixed=true:=by
 obtain ⟨_,_,h0,h1,_⟩:=qs2 hr;cases hf:c.fixed with
 | true=>rfl
 | false =>
  have:=qyu h0 h1 h.len.1;rw [h.none hf 0] at this;cases this
theorem OfTxn.length {t:GTxn} {c:GCase} (h:OfTxn t c) (hr:(qes c).2=true):(qes c).1.length=t.ops.length:=by
 obtain ⟨_,_,_,_,e⟩:=qs2 hr;have:=h.len;rw [e,Bw,h.ops];rw [h.ops] at this;simp;omega
theorem qyv {sh:Int}:∀ {at_ vs:List Int} {c:GCase},(∀ n∈at_,0≤n)→(∀ i,i<c.ops.length→qaw c.has i=true)→qla sh c at_ vs=c
 | [],_,_,_,_=>by unfold qla;rfl
 | _::_,[],_,_,_=>by unfold qla;rfl
 | k::at_,v::vs,c,hn,h=>by
  have e:qbj sh c k v=c:=by
   unfold qbj;by_cases hk:k<(c.ops.length:Int)
   ·have h0:=hn k Aa;rw [h k.toNat Gf];simp
   ·rw [qab hk];rfl
  unfold qla;rw [e];exact qyv (fun n hm=>hn n (X8 _ hm)) h
theorem qwl {c:GCase} {id:Int} {f:GFrame} (h:(qby c id f).2.2=0):qaf f=0∧(((qby c id f).1=c)∨(c.fixed=false∧(qby c id f).1=q4f (ql3 c f))∨(c.fixed=true∧(qby c id f).1={ c with known:=c.known.setIfInBounds f.node.toNat true })∨(c.fixed=true∧(qby c id f).1=qla (ofZ f.node) c f.at_ f.vals)):=by
 unfold qby at h ⊢;cases ht:qxa c id f
 ·rw [ht] at h;simp at h
 ·rw [ht] at h;simp only [cond_true] at h ⊢;cases hz:(qaf f==0)
  ·rw [hz] at h;simp only [cond_false] at h;rw [h] at hz;cases hz
  ·refine ⟨by simpa using hz,?_⟩;rw [hz] at h;simp only [cond_true] at h ⊢;unfold qpi at h ⊢;cases hk2:(f.kind==2)
   ·simp only [cond_false];cases hk4:(f.kind==4)
    ·simp only [cond_false];cases hk5:(f.kind==5)
     ·rw [hk2,hk4,hk5] at h;simp at h
     ·cases hfx:c.fixed
      ·exact .inl rfl
      ·exact .inr (.inr (.inr ⟨rfl,rfl⟩))
    ·cases hfx:c.fixed
     ·exact .inl rfl
     ·exact .inr (.inr (.inl ⟨rfl,rfl⟩))
   ·simp only [cond_true];cases hfx:c.fixed
    ·cases (qaw c.told f.node.toNat || !qag c.ops (ofZ f.node))
     ·exact .inr (.inl ⟨rfl,rfl⟩)
     ·exact .inl rfl
    ·exact .inl rfl
theorem qyw {c d:GCase} (h1:d.begun=c.begun) (h2:d.ops=c.ops) (h3:d.deps=c.deps) (hb:c.begun=true):qdz d=qdz c:=by
 unfold qdz;rw [h1,h2,h3,hb];rfl
theorem OfTxn.take {t:GTxn} {c:GCase} (h:OfTxn t c) {f:GFrame} (h0:(qby c t.id f).2.2=0):OfTxn t (qby c t.id f).1∧((qes c).2=true→qes (qby c t.id f).1=qes c):=by
 obtain ⟨hz,hk⟩:=qwl h0;rcases hk with e | ⟨hf,e⟩ | ⟨hf,e⟩ | ⟨hf,e⟩
 ·rw [e];exact ⟨h,fun _=>rfl⟩
 ·rw [e];refine ⟨⟨h.begun,h.ops,h.good,fun _=>h.none hf⟩,fun hr=>?_⟩;rw [h.fixed hr] at hf;cases hf
 ·rw [e];refine ⟨⟨h.begun,h.ops,h.good,fun hn=>?_⟩,fun _=>?_⟩
  ·have hn:c.fixed=false:=hn;rw [hn] at hf;cases hf
  ·unfold qes;have hg:qdz { c with known:=c.known.setIfInBounds f.node.toNat true }=qdz c:=qyw rfl rfl rfl h.begun;rw [hg];rfl
 ·rw [e];have hd:=doneL_same (sh:=ofZ f.node) (at_:=f.at_) (vs:=f.vals) (c:=c);refine ⟨⟨hd.2.2.1.trans h.begun,hd.1.trans h.ops,h.good,fun hn=>?_⟩,fun hr=>?_⟩
  ·rw [hd.2.1,hf] at hn;cases hn
  ·obtain ⟨_,_,w0,w1,_⟩:=qs2 hr;rw [qyv (fun n hn=>((q4e hz).mem n hn).1) fun i hi=>qyu w0 w1 hi]
theorem q4n {c:GCase} {id:Int} {f:GFrame} (h:(qby c id f).2.2=0):qxa c id f=true:=by
 unfold qby at h;cases ht:qxa c id f
 ·rw [ht] at h;exact absurd (show (2:Int)=0 from h) Gg
 ·rfl
theorem zbr {c:GCase} {id:Int} {f:GFrame} (h:(qby c id f).2.2≠0):(qby c id f).1=c∧(qby c id f).2.1=[]:=by
 unfold qby at *;cases ht:qxa c id f
 ·exact ⟨rfl,rfl⟩
 ·rw [ht,cond_true] at h;rw [cond_true];cases hz:(qaf f==0)
  ·exact ⟨rfl,rfl⟩
  ·rw [hz,cond_true] at h;rw [cond_true];unfold qpi at *;cases h2:(f.kind==2)
   ·rw [h2,cond_false] at h;rw [cond_false];cases h4:(f.kind==4)
    ·rw [h4,cond_false] at h;rw [cond_false];cases h5:(f.kind==5)
     ·exact ⟨rfl,rfl⟩
     ·rw [h5,cond_true] at h;cases hf:c.fixed
      ·exact ⟨rfl,rfl⟩
      ·rw [hf] at h;exact absurd rfl h
    ·rw [h4,cond_true] at h;cases hf:c.fixed
     ·exact ⟨rfl,rfl⟩
     ·rw [hf] at h;exact absurd rfl h
   ·rw [h2,cond_true] at h;cases hb:(c.fixed||(qaw c.told f.node.toNat || !qag c.ops (ofZ f.node)))
    ·rw [hb] at h;exact absurd rfl h
    ·exact ⟨rfl,rfl⟩
theorem qqb {c:GCase} (h:qdz c=true) (hb:c.begun=true):qak c.ops=true∧qan c.deps=true:=by
 unfold qdz at h;rw [hb,cond_true,X9] at h;exact h
theorem q0e {c:GCase} (hb:c.begun=true) (h1:qak c.ops=true) (h2:qan c.deps=true):qdz c=true:=by
 unfold qdz;rw [hb,cond_true,h1,h2];rfl
theorem q7a {c:GCase} {id:Int} {f:GFrame} (h:qdz c=true):qdz (qby c id f).1=true:=by
 by_cases hz:(qby c id f).2.2=0
 ·have ht:=q4n hz;unfold qxa at ht;simp only [X9] at ht;have hb:=ht.2.1;obtain ⟨h1,h2⟩:=qqb h hb;obtain ⟨_,e | ⟨_,e⟩ | ⟨_,e⟩ | ⟨_,e⟩⟩:=qwl hz
  ·rw [e];exact h
  ·rw [e];exact q0e hb h1 (q2p _ _)
  ·rw [e];exact q0e hb h1 h2
  ·rw [e,qyw doneL_same.2.2.1 doneL_same.1 doneL_same.2.2.2.1 hb];exact h
 ·rw [(zbr hz).1];exact h
theorem q0f:qdz noC=true:=by decide +kernel
theorem q4o (t:GTxn):qdz (qer t).1=true:=by
 unfold qer;cases decide (0≤t.id∧t.id<32)
 ·exact q0f
 ·cases h:qak t.ops
  ·exact q0f
  ·exact q0e rfl h (show qan []=true by decide)
theorem CInv.sent {c:GCluster} {net:List ByteArray} (h:CInv c net) (l:List GFrame):CInv c (qki net l) :=
 ⟨h.acts,h.begun,h.node,h.down,h.log,h.tear,h.cas,qqa l net h.net.1 h.net.2⟩
theorem CInv.setCase {c:GCluster} {net:List ByteArray} (h:CInv c net) {n:Nat} (hn:n<32) {x:GCase} (hx:qdz x=true):CInv { c with cases:=c.cases.setIfInBounds n x } net:=by
 refine ⟨h.acts,h.begun,h.node,h.down,h.log,h.tear,fun k hk=>?_,h.net⟩;show qdz (qay (c.cases.setIfInBounds n x) k)=true;rw [qe7 hn];by_cases e:n=k
 ·rw [if_pos e];exact hx
 ·rw [if_neg e];exact h.cas k hk
theorem CInv.setLog {c:GCluster} {net:List ByteArray} (h:CInv c net) {n:Nat} (hn:n<6) {x:ByteArray} (hx:x.size≤65536):CInv { c with logs:=c.logs.setIfInBounds n x } net:=by
 refine ⟨h.acts,h.begun,h.node,h.down,fun k hk=>?_,h.tear,h.cas,h.net⟩;show (qay (c.logs.setIfInBounds n x) k).size≤65536;rw [qe7 hn];by_cases e:n=k
 ·rw [if_pos e];exact hx
 ·rw [if_neg e];exact h.log k hk
theorem CInv.setTear {c:GCluster} {net:List ByteArray} (h:CInv c net) {n:Nat} (hn:n<6) {x:Int} (hx:0≤x∧x≤401):CInv { c with tear:=c.tear.setIfInBounds n x } net:=by
 refine ⟨h.acts,h.begun,h.node,h.down,h.log,fun k hk=>?_,h.cas,h.net⟩;show 0≤qay (c.tear.setIfInBounds n x) k∧qay (c.tear.setIfInBounds n x) k≤401;rw [qe7 hn];by_cases e:n=k
 ·rw [if_pos e];exact hx
 ·rw [if_neg e];exact h.tear k hk
theorem CInv.setNode {c:GCluster} {net:List ByteArray} (h:CInv c net) {n:Nat} (hn:n<6) {x:GNode} {b:Bool} (hx:GoodN x) (hb:b=true→x=zeroN):CInv { c with nodes:=c.nodes.setIfInBounds n x,down:=c.down.setIfInBounds n b } net:=by
 refine ⟨h.acts,h.begun,fun k hk=>?_,fun k hk=>?_,h.log,h.tear,h.cas,h.net⟩
 ·show GoodN (qay (c.nodes.setIfInBounds n x) k);rw [qe7 hn];by_cases e:n=k
  ·rw [if_pos e];exact hx
  ·rw [if_neg e];exact h.node k hk
 ·show qay (c.down.setIfInBounds n b) k=true→qay (c.nodes.setIfInBounds n x) k=zeroN;rw [qe7 hn,qe7 hn];by_cases e:n=k
  ·rw [if_pos e,if_pos e];exact hb
  ·rw [if_neg e,if_neg e];exact h.down k hk
theorem CInv.fall {c:GCluster} {net:List ByteArray} (h:CInv c net) {n:Nat} (hn:n<6):CInv (q66 c n) net :=
 (h.setNode hn (b:=true) qh3 fun _=>rfl).setTear hn ⟨by omega,by omega⟩
theorem q0g {c:GCluster} {n:Nat} {b:Bool} (h:qay c.down n=b) (hn:n<6):c.down.setIfInBounds n b=c.down:=by
 refine Vector.ext fun i hi=>?_;rw [Dc];by_cases e:n=i
 ·subst e;rw [if_pos rfl,← h];unfold qay;simp [hi]
 ·rw [if_neg e]
theorem CInv.come {c:GCluster} {net:List ByteArray} (h:CInv c net) {n:Nat} (hn:n<6) {f:GFrame} {s:ByteArray}:CInv (qfr c net n f s).2.1 (qfr c net n f s).2.2:=by
 have hlog:=h.log n hn;unfold qfr;cases hd:qay c.down n
 ·rw [cond_false];cases h1:((qcs (qay c.nodes n) n f).2.2 != 0)
  ·have h1:(qcs (qay c.nodes n) n f).2.2=0:=by simpa using h1
   rw [cond_false];by_cases h2:qay c.tear n>0
   ·rw [qae (qac h2)];exact (h.setLog hn (qs0 hlog)).fall hn
   ·rw [qad (qab h2)];cases h3:(qdy (qay c.logs n) s != 0)
    ·have h':=((h.setLog hn (qr0 (s:=s) hlog)).setNode hn (x:=(qcs (qay c.nodes n) n f).1) (b:=false) (qiz h1) fun e=>by cases e).sent (qcs (qay c.nodes n) n f).2.1;have e:=q0g hd hn;have e:({ c with logs:=c.logs.setIfInBounds n (qw1 (qay c.logs n) s) }:GCluster).down.setIfInBounds n false=c.down:=e;rw [e] at h';exact h'
    ·exact h.setLog hn (qr0 hlog)
  ·exact h
 ·exact h
theorem CInv.beg {c:GCluster} {net:List ByteArray} (h:CInv c net) {ops:List GOp}:CInv (q90 c net ops).2.1 (q90 c net ops).2.2:=by
 obtain ⟨h0,h1⟩:=h.begun;unfold q90;by_cases h32:c.begun≥32
 ·rw [qae (qac h32)];exact h
 ·rw [qad (qab h32)];cases hc:((qer { id:=c.begun,ops:=ops }).2.2 != 0)
  ·have h':=(h.setCase (n:=c.begun.toNat) Gf (q4o { id:=c.begun,ops:=ops })).sent (qer { id:=c.begun,ops:=ops }).2.1;exact ⟨h'.acts,⟨by show 0≤c.begun+1;omega,by show c.begun+1≤32;omega⟩,h'.node,h'.down,h'.log,h'.tear,h'.cas,h'.net⟩
  ·exact h
theorem CInv.frm2 {c:GCluster} {net:List ByteArray} (h:CInv c net) {kind:Int} {f:GFrame} {s:ByteArray} (hn:0≤f.node∧f.node<6) (hi:0≤f.id∧f.id<32):CInv (frm2 c net kind f s).2.1 (frm2 c net kind f s).2.2:=by
 unfold Go.Proofs.YtaimhfbbenbdaaaGreat.frm2;cases (kind==4)
 ·cases (f.kind==1||f.kind==3)
  ·rw [cond_false,cond_false];cases ((qby (qay c.cases f.id.toNat) f.id f).2.2 != 0)
   ·exact (h.setCase Gf (q7a (h.cas _ Gf))).sent _
   ·exact h
  ·exact h.come Gf
 ·exact h
theorem CInv.frm {c:GCluster} {net:List ByteArray} (h:CInv c net) {a:GAct}:CInv (q0d c net a).2.1 (q0d c net a).2.2:=by
 unfold q0d;obtain ⟨hn,hi⟩:=q91 (byL (qjv net a.n));cases decide (0≤a.n∧a.n<net.length)
 ·exact h
 ·rw [cond_true];refine CInv.frm2 ?_ hn hi;cases (a.kind==3)
  ·exact h.cut (fun s hs=>B8 hs) (D6 ..)
  ·exact h
theorem CInv.pow {c:GCluster} {net:List ByteArray} (h:CInv c net) {a:GAct}:CInv (q5v c net a).2.1 (q5v c net a).2.2:=by
 unfold q5v;cases hp:q2o a
 ·exact h
 ·unfold q2o at hp;simp only [X9,decide_eq_true_eq] at hp;obtain ⟨⟨h0,h6⟩,hm⟩:=hp;have hn:a.n.toNat<6:=by omega
  rw [cond_true];cases (!(qay c.down a.n.toNat==(a.kind==8)))
  ·rw [cond_false];cases h7:(a.kind==7)
   ·rw [cond_false];cases (a.kind==6)
    ·have hr:CInv (q68 c a.n.toNat) net:=(h.setLog hn (x:=(qay c.logs a.n.toNat).extract 0 (qb5 (qay c.logs a.n.toNat).data.toList).2) (by have:=h.log _ hn;rw [Br];omega)).setNode hn (b:=false) (qtw _ qh3) fun e=>by cases e
     exact hr
    ·exact h.fall hn
   ·rw [h7] at hm;simp only [Aq,Bool.not_not,decide_eq_true_eq] at hm;exact h.setTear hn ⟨by omega,by omega⟩
  ·exact h
theorem CInv.do {c:GCluster} {net:List ByteArray} (h:CInv c net) {a:GAct}:CInv (q4m c net a).2.1 (q4m c net a).2.2:=by
 unfold q4m;by_cases ha:c.acts≥400
 ·rw [qae (qac ha)];exact h
 ·rw [qad (qab ha)];have hi:=h.act ha;unfold doA;cases (a.kind==1)
  ·rw [cond_false];cases (a.kind==2||(a.kind==3||a.kind==4))
   ·rw [cond_false];cases (a.kind==5)
    ·rw [cond_false];cases (a.kind==6||(a.kind==7||a.kind==8))
     ·exact hi
     ·exact hi.pow
    ·rw [cond_true];unfold zd5;cases decide (0≤a.n∧a.n<({ c with acts:=c.acts+1 }:GCluster).begun)
     ·exact hi
     ·exact hi.sent _
   ·exact hi.frm
  ·exact hi.beg
def q7b:GCluster:={ nodes:=Zr.zd,logs:=Zr.zd,down:=Zr.zd,tear:=Zr.zd,cases:=Zr.zd,begun:=Zr.zd,net:=Zr.zd,acts:=Zr.zd }
theorem q93 {fu:Nat}:q5e fu=some (q7b,[]):=rfl
theorem zd6:CInv q7b []:=by
 refine ⟨⟨by show (0:Int)≤0;omega,by show (0:Int)≤400;omega⟩,⟨by show (0:Int)≤0;omega,by show (0:Int)≤32;omega⟩,fun n _=>?_,fun n _ _=>?_,fun n _=>?_,fun n _=>?_,fun n _=>?_,by simp,by simp⟩
 ·show GoodN (qay (Zr.zd:Vector GNode 6) n);rw [qju];exact qh3
 ·show qay (Zr.zd:Vector GNode 6) n=zeroN;rw [qju];rfl
 ·show (qay (Zr.zd:Vector ByteArray 6) n).size≤65536;rw [qju];show (⟨#[]⟩:ByteArray).size≤65536;decide
 ·show 0≤qay (Zr.zd:Vector Int 6) n∧qay (Zr.zd:Vector Int 6) n≤401;rw [qju];exact ⟨by show (0:Int)≤0;omega,by show (0:Int)≤401;omega⟩
 ·show qdz (qay (Zr.zd:Vector GCase 32) n)=true;rw [qju];exact q0f
theorem qty {fu:Nat} {l:List GOp} (h:l.length*24≤140737488351232):qhn fu l=some l:=by
 have hb:Rep.bytes GOp=24:=rfl;unfold qhn;rw [qas (by rw [hb];simpa using h)];rfl
theorem q0h {fu:Nat} {l:List ByteArray} (h:l.length≤1000):qk4 fu l=some l:=by
 have hb:Rep.bytes ByteArray=16:=rfl;unfold qk4;rw [qas (by rw [hb];simp only [A8];omega)];rfl
theorem q94 {fu N:Nat} {e:GEntry} (h:ESz e N):q1l fu e=some e:=by
 unfold q1l;rw [qty h.ops.2,qaa,qdl h.first.2,qaa,qdl h.deps.2,qaa,qdl h.at_.2,qaa,qdl h.values.2,qaa]
 rfl
theorem qtz {fu N:Nat} {c:GCluster} {x:Int} (h0:0≤x) (h6:x<6) {s:GNode} (hs:NSz s N):∀ (n m k:Nat),k+m=32→m<n→qf7 fu c x n s k=some (s,qay c.down x.toNat)
 | 0,m,k,_,h=>absurd h Gf
 | n+1,0,k,hk,_=>by rw [qf7,qad (qab Gf),qaj h0 h6,qaa,qkh h0 h6,qaa,qaa]
 | n+1,m+1,k,hk,hn=>by
  have hk32:k<32:=by omega
  rw [qf7,qae (qac Gf),qaj Gf Gf,qaa,qsx hk32,qaa,q94 (hs.ent k),qaa,qaa,qaa,zdy hk32,q2i hk32,qaa,qaa,zg1 k Gf];exact qtz h0 h6 hs n m (k+1) Gf Gf
theorem q7c {fu:Nat} (hfu:100≤fu) {c:GCluster} {net:List ByteArray} (h:CInv c net) {x:Int} (h0:0≤x) (h6:x<6):qm6 fu c x=some (qay c.nodes x.toNat,qay c.down x.toNat):=by
 have hg:=h.node x.toNat Gf;unfold qm6 qm5;rw [qad (qab Gf),qab Gf,cond_false,qq1,qaj h0 h6,qaa,qkh h0 h6,qaa,qaa,qdl hg.sizes.order.2,qaa,qaa];exact qtz h0 h6 hg.sizes fu 32 0 Gf Gf
theorem q95 {fu:Nat} {c:GCluster} {x:Int} (h0:0≤x) (h6:x<6):qtd fu c x=some (qay c.logs x.toNat):=by
 unfold qtd qq2;rw [qad (qab Gf),qab Gf,cond_false,qug,qaj h0 h6,qaa,qkh h0 h6,qaa]
theorem qqc {c:GCase} (h:qdz c=true):c.ops.length≤4∧c.deps.length≤33:=by
 cases hb:c.begun
 ·unfold qdz at h;rw [hb] at h;simp only [cond_false,X9,beq_iff_eq] at h;omega
 ·obtain ⟨h1,h2⟩:=qqb h hb;have:=qdh h1;have:=qk6 h2;omega
theorem qyx {fu:Nat} {c:GCluster} {net:List ByteArray} (h:CInv c net) {x:Int} (h0:0≤x) (h1:x<32):qlw fu c x=some (qay c.cases x.toNat):=by
 obtain ⟨g1,g2⟩:=qqc (h.cas x.toNat Gf);unfold qlw qm7;rw [qad (qab Gf),qab Gf,cond_false,qq3,qaj h0 h1,qaa,qkh h0 h1,qaa,qaa,qty Gf,qaa,qdl Gf,qaa,qaa,qaa,qaa]
theorem q96 {fu:Nat} {c:GCluster} {net:List ByteArray} (h:CInv c net):q1m fu c net=some (net,net):=by
 unfold q1m;rw [q0h (by have:=h.net.1;omega),qaa]
structure Alike (c d:GCluster):Prop where
 nodes:c.nodes=d.nodes
 down:c.down=d.down
 logs:c.logs=d.logs
 cases:c.cases=d.cases
theorem Alike.refl (c:GCluster):Alike c c:=⟨rfl,rfl,rfl,rfl⟩
theorem qwm (v:Int):qcy (qcy v)=qcy v:=by
 unfold qcy
 repeat' split
 all_goals omega
theorem q97 (v:Int) (o:GOp):qcy (doZ v o)=doZ v o:=by
 unfold doZ;split
 ·exact qwm _
 ·split<;>exact qwm _
theorem qwn {sh:Int}:∀ (l:List GOp) (i:Nat) (v:Vector Int 8) (a b:List Int),∃ L R,(qg9 sh i l v a b).2.1=a++L∧(qg9 sh i l v a b).2.2=b++R∧(∀ (p:Nat) (o:GOp),l[p]? = some o→qa6 o.key=sh→((i+p:Nat):Int)∈L)∧∀ x∈R,qcy x=x
 | [],_,_,a,b=>⟨[],[],(List.append_nil a).symm,(List.append_nil b).symm,fun p o h=>by simp at h,fun x h=>absurd h List.not_mem_nil⟩
 | o::t,i,v,a,b=>by
  rw [qg9];cases h:(qa6 o.key==sh)
  ·obtain ⟨L,R,e1,e2,e3,e4⟩:=qwn (sh:=sh) t (i+1) v a b;rw [cond_false];refine ⟨L,R,e1,e2,fun p u hp hs=>?_,e4⟩;cases p with
   | zero =>
    rw [E0] at hp;rw [← D1 hp] at hs;rw [hs] at h;simp at h
   | succ p =>
    rw [D5] at hp;have:=e3 p u hp hs;rw [show i+(p+1)=i+1+p by omega];exact this
  ·obtain ⟨L,R,e1,e2,e3,e4⟩:=qwn (sh:=sh) t (i+1) (v.setIfInBounds o.key.toNat (doZ (vat v o.key.toNat) o)) (a++[(i:Int)]) (b++[doZ (vat v o.key.toNat) o]);rw [cond_true];refine ⟨(i:Int)::L,doZ (vat v o.key.toNat) o::R,by rw [e1];simp,by rw [e2];simp,fun p u hp hs=>?_,fun x hx=>?_⟩
   ·cases p with
    | zero=>exact Aa
    | succ p =>
     rw [D5] at hp;have:=e3 p u hp hs;rw [show i+(p+1)=i+1+p by omega];exact X8 _ this
   ·rcases Ab.1 hx with e | hx
    ·rw [e];exact q97 _ _
    ·exact e4 x hx
theorem q98 {t:GNode} (hg:GoodN t) {n i:Nat} (hn:n<6) (hi:i<32) (hs:(eat t.entries i).state≠0):qaf (q0a n i (eat t.entries i).first)=0:=by
 have hb:=hg.body hi hs;have e:(qei (q0a n i (eat t.entries i).first))=true:=by
  unfold qei;rw [if_pos (.inl rfl)];show (qan (eat t.entries i).first && !qcx (eat t.entries i).first (i:Int))=true
  rw [hb.first,hb.nfirst]
  rfl
 refine qmq (by show ¬ ((2:Int)<1∨5<(2:Int));omega) (by show ¬ ((n:Int)<0∨6≤(n:Int)∨(i:Int)<0∨32≤(i:Int));omega) ?_;rw [e];rfl
theorem q7d {n i:Nat} (hn:n<6) (hi:i<32):qaf (qnv n i)=0 :=
 qmq (by show ¬ ((4:Int)<1∨5<(4:Int));omega) (by show ¬ ((n:Int)<0∨6≤(n:Int)∨(i:Int)<0∨32≤(i:Int));omega) rfl
theorem q99 {m:Int} (hm:m≤4):∀ (l:List Int) (b:Int),-1≤b→qz3 m b l=true→∀ i,i<l.length→q0n l i=true∧(i=0→b<l.getD 0 0)
 | [],_,_,_,i,h=>absurd h (by simp)
 | x::t,b,hb,h,i,hi=>by
  unfold qz3 at h;simp only [Bool.and_eq_true,decide_eq_true_eq] at h;obtain ⟨⟨h1,h2⟩,h3⟩:=h;have ih:=q99 hm t x Gf h3;cases i with
  | zero =>
   refine ⟨?_,fun _=>h1⟩;unfold q0n;simp only [List.getD_cons_zero];rw [qac Gf,qac Gf];rfl
  | succ i =>
   refine ⟨?_,fun h=>by omega⟩;simp only [Ah] at hi;obtain ⟨i1,i2⟩:=ih i Gf;unfold q0n at i1 ⊢;simp only [X9,decide_eq_true_eq] at i1;rw [List.getD_cons_succ,qac i1.1.1,qac i1.1.2,Dm];cases i with
   | zero =>
    have:=i2 rfl;rw [List.getD_cons_zero,qac this];rfl
   | succ i =>
    have h4:=i1.2;rw [Dm] at h4;simp only [Nat.add_eq_zero_iff,Nat.one_ne_zero,and_false,beq_iff_eq,Do,decide_eq_true_eq,false_or] at h4;rw [List.getD_cons_succ,qac h4];simp
theorem zbs {x:Int} (h:qcy x=x) : -1099511627776≤x∧x≤1099511627776:=by
 unfold qcy at h;split at h
 ·omega
 ·split at h<;>omega
theorem q7e {t:GNode} (hg:GoodN t) {n i:Nat} (hn:n<6) (hi:i<32) (hv:∀ x∈(eat t.entries i).values,qcy x=x) (h3:(eat t.entries i).state=3):qaf (q61 n i (eat t.entries i))=0:=by
 have hb:=hg.body hi Gf;have hl:=(qdh hb.ops).2;have e:qmc (q61 n i (eat t.entries i))=true:=by
  unfold qmc;show (((5:Int)==5||(eat t.entries i).at_.length==0)&&((eat t.entries i).at_.length==(eat t.entries i).values.length&&(qd1 (q0n (eat t.entries i).at_) (eat t.entries i).at_.length&&qd1 (qpv (eat t.entries i).values) (eat t.entries i).values.length)))=true;have e1:qd1 (q0n (eat t.entries i).at_) (eat t.entries i).at_.length=true:=(qfs _ _).2 fun j hj=>(q99 (m:=((eat t.entries i).ops.length:Int)) Gf _ _ (Int.le_refl _) hb.up j hj).1;have e2:qd1 (qpv (eat t.entries i).values) (eat t.entries i).values.length=true:=(qfs _ _).2 fun j hj=>by
   have hm:(eat t.entries i).values.getD j 0∈(eat t.entries i).values:=by
    rw [Ay,X7 hj];exact A2 hj
   have:=zbs (hv _ hm);unfold qpv;rw [qac this.1,qac this.2];rfl
  rw [e1,e2,hb.same];simp
 refine qmq (by show ¬ ((5:Int)<1∨5<(5:Int));omega) (by show ¬ ((n:Int)<0∨6≤(n:Int)∨(i:Int)<0∨32≤(i:Int));omega) ?_;rw [e];rfl
theorem q7f {x:GCase} (hg:qdz x=true) (hb:x.begun=true) {i k:Nat} (hi:i<32) (hk:k<6) (hd:qcx x.deps (i:Int)=false):∀ f∈qkg x i k,qaf f=0:=fun f hf=>by
 obtain ⟨h1,h2⟩:=qqb hg hb;unfold qkg at hf;cases hfx:x.fixed
 ·rw [hfx,cond_false] at hf;cases ht:(qag x.ops (ofZ k) && !qaw x.told k)
  ·rw [ht] at hf;cases hf
  ·rw [ht,cond_true] at hf;have e:=List.mem_singleton.1 hf;subst e;refine qmq (by show ¬ ((1:Int)<1∨5<(1:Int));omega) (by show ¬ ((k:Int)<0∨6≤(k:Int)∨(i:Int)<0∨32≤(i:Int));omega) ?_;have e1:qgp ⟨1,k,i,x.ops,[],[],[]⟩=true:=by
    unfold qgp;rw [if_pos (.inl rfl)];exact h1
   rw [e1];rfl
 ·rw [hfx,cond_true] at hf;cases ht:(!qaw x.known k || !qeq x (ofZ k))
  ·rw [ht] at hf;cases hf
  ·rw [ht,cond_true] at hf;have e:=Ag.1 hf;subst e;refine qmq (by show ¬ ((3:Int)<1∨5<(3:Int));omega) (by show ¬ ((k:Int)<0∨6≤(k:Int)∨(i:Int)<0∨32≤(i:Int));omega) ?_;have e1:qgp ⟨3,k,i,x.ops,x.deps,[],[]⟩=true:=by
    unfold qgp;rw [if_pos (.inr rfl)];exact h1
   have e2:qei ⟨3,k,i,x.ops,x.deps,[],[]⟩=true:=by
    unfold qei;rw [if_pos (.inr rfl)];show (qan x.deps && !qcx x.deps (i:Int))=true;rw [h2,hd];rfl
   rw [e1,e2];rfl
theorem q2r {x:GCase} {i:Nat} {f:GFrame}:∀ (m k:Nat),f∈qh1 x i m k↔∃ j,k≤j∧j<k+m∧f∈qkg x i j
 | 0,k=>by
  unfold qh1;exact ⟨fun h=>absurd h List.not_mem_nil,fun ⟨j,h1,h2,_⟩=>by omega⟩
 | m+1,k=>by
  rw [qh1,List.mem_append,q2r m (k+1)];constructor
  ·rintro (h | ⟨j,h1,h2,h3⟩)
   ·exact ⟨k,Nat.le_refl _,by omega,h⟩
   ·exact ⟨j,by omega,by omega,h3⟩
  ·rintro ⟨j,h1,h2,h3⟩;by_cases e:j=k
   ·subst e;exact .inl h3
   ·exact .inr ⟨j,by omega,by omega,h3⟩
theorem q2s:∀ (l:List GFrame) (net:List ByteArray) (s:ByteArray),s∈qki net l→s∈net∨∃ f∈l,qaf f=0∧s=(q1q f).1
 | [],net,s,h => .inl h
 | f::t,net,s,h=>by
  rw [qki] at h;rcases q2s t _ s h with h | ⟨g,hg,hz,e⟩
  ·cases hb:(qaf f==0&&decide (net.length<60))
   ·rw [hb] at h;exact .inl h
   ·rw [hb,cond_true] at h;simp only [Bool.and_eq_true,beq_iff_eq] at hb;rcases List.mem_append.1 h with h | h
    ·exact .inl h
    ·exact .inr ⟨f,List.mem_cons_self,hb.1,List.mem_singleton.1 h⟩
  ·exact .inr ⟨g,List.mem_cons_of_mem _ hg,hz,e⟩
theorem zbt {f:GFrame} (h:qaf f=0):(qo0 (byL (q1q f).1)).1=f:=by
 obtain ⟨_,e,_⟩:=q9y h;rw [e]
set_option maxHeartbeats 4000000
set_option maxRecDepth 100000
set_option linter.unusedVariables false
variable {M:Mm} {w:World} {fu:Nat}
def qn2 (fu:Nat) (a:GCase):Option GCase:=(app ([]:List GOp) a.ops).bind fun b=>(app ([]:List Int) a.deps).bind fun c=>(some ({ a with ops:=b }:GCase)).bind fun d=>(some ({ d with deps:=c }:GCase)).bind fun e=>(some e).bind fun f=>some f
theorem q4p {d:Gq} {o:GCase} {r:GCase} (s:Agree M w) (c:rep M d o) (b:qn2 fu o=some r) :
    Calls Tryz.prog 56 #[Gj d] w (Gives M w (fun t u=>∃ cs,u=Gj cs∧rep t cs r)):=by
 refine Zk Tryz.func56 12 fun T x=>?_;have y:T 0=Gj d:=x 0;have a:Gm w M [] w:=Zs s;rw [qn2] at b;refine Qy ?_;refine Ql<|Yq (v:= Gj d) (cs:=d) y rfl a fun z w2 ap a=>Ql (Zl U7 a ?_);intro _ _ _ a;have h:rep M (Zr.zc GCase) (Zr.zd:GCase):=Zr.zr;refine Qj<|Qt<|Yp [Gp z d 62] [7,9] Z2 a fun w6 a p i=>Qv 0 rfl (Qi Vo rfl) i ?_;obtain ⟨v9,ab,ac⟩:=(Yu (rr c));refine Yx 1 rfl (Qh v9 Va rfl (Yl 0 rfl) ab) i<|Qv 3 rfl (Qi Ky rfl) i ?_;obtain ⟨ad,ae,l⟩:=(Vp (rr c));refine Yx 4 rfl (Qh ad Zz rfl (Yl 0 rfl) ae) i ?_;replace a:=a.nilRow 99 3;obtain ⟨_,af,ag,b⟩:=Z5 b;refine w1 2 rfl (Yv (α := GOp) (j:=0) zb2 a rfl rfl rfl (Zv _) ac af ?_);intro _ _ _ e f a;rw [← ag] at f;replace l:=Qo e.1 l;refine Yj a (p.trans e) fun ah=>Qv 6 rfl (Qi Vo rfl) ah ?_;replace a:=a.nilRow 3 1;obtain ⟨_,ai,aj,b⟩:=Z5 b;refine w1 5 rfl (Yv (α := Int) (j:=0) K2 a rfl rfl rfl (Zv _) l ai ?_);intro _ _ _ g k a;rw [← aj] at k;replace c:=Zf (e.trans g) c;replace h:=Zf (e.trans g) h;replace f:=Qo g.1 f;refine Yj a (p.trans (e.trans g)) fun a4=>?_;obtain ⟨_,ak,b⟩:=Qb b;refine w1 7 rfl<|Z3 3 1 a rfl c rfl rfl (Qq f) (Q4 f) rfl (GCase.u2 (rr c) (Lf (Yu (rr c)) (Qq f))) ak fun a6 a7 m a8 a9 a=>⟨nB,?_⟩;refine wy 8 rfl (Qi Ky rfl) nB ?_;obtain ⟨_,al,b⟩:=Qb b;refine w1 9 rfl<|Z3 3 1 a rfl m rfl rfl (Qq k) (Q4 k) rfl (GCase.u5 (rr m) (Lf (Vp (rr m)) (Qq k))) al fun bb bc am bd be a=>⟨nB,?_⟩;refine wd<|Qe<|Qy ?_;have n:=(rr am);refine Qa (Za Y8 rfl (a.bvB 3 rfl) (X5 n)) ?_;obtain ⟨_,an,b⟩:=Qb b;refine Ql (Z7 2 24 a h n (Lf (rr h) n) an ?_);intro _ _ q _ _ a;refine Qj ?_;cases b;exact Q2 (J6 (j:=2) rfl rfl (V1 Y8 q) a rfl (Ze a (e.trans g) ⟨_,rfl,q⟩))
def qdm (c:GCase) (a:GCase):Option (GCase × (List GFrame) × Int):=(some a).bind fun b=>some (b,[],0)
def qgc (y88:Int) (rec89:(Vector Int 2)→Int→Option (GCase × (List GFrame) × Int)) (d98:Vector Int 2):Option (GCase × (List GFrame) × Int) := rec89 d98 (Gr (y88+1))
def qb8 (fu:Nat) (b:Int) (c:GCase) (a:GCase):Option (GCase × (List GFrame) × Int):=(bif a.fixed then (qgs fu a b).bind fun d=>(some a).bind fun e=>some (e,d,0) else qdm c a)
def qao (fu:Nat) (b:Int) (c:GCase) (a:GCase):Nat→(Vector Int 2)→Int→Option (GCase × (List GFrame) × Int)
 | 0,_,_=>none
 | n+1,d,e=>(bif decide (e<6) then (inR e 6).bind fun _=>(qam a.told e).bind fun g=>(bif g then (some (ofZ e)).bind fun f=>(inR f 2).bind fun _=>(qam d f).bind fun h=>(inR f 2).bind fun _=>(qam d f).bind fun w=>(qdc d f (Gr (h+1))).bind fun i=>(some i).bind fun j=>qgc e (qao fu b c a n) j else qgc e (qao fu b c a n) d) else (qam d 0).bind fun k=>(bif decide (k>1) then (qam d 1).bind fun l=>(bif decide (l>1) then (some ({ a with fixed:=true }:GCase)).bind fun m=>qb8 fu b c m else (some (qag a.ops 1)).bind fun o=>(some ({ a with fixed := !o }:GCase)).bind fun p=>qb8 fu b c p) else (some (qag a.ops 0)).bind fun q=>(bif !q then (qam d 1).bind fun r=>(bif decide (r>1) then (some ({ a with fixed:=true }:GCase)).bind fun s=>qb8 fu b c s else (some (qag a.ops 1)).bind fun t=>(some ({ a with fixed := !t }:GCase)).bind fun u=>qb8 fu b c u) else (some ({ a with fixed:=false }:GCase)).bind fun v=>qb8 fu b c v)))
def qgd (y208:Int) (rec209:GCase→Int→Option (GCase × (List GFrame) × Int)) (d218:GCase):Option (GCase × (List GFrame) × Int) := rec209 d218 (Gr (y208+1))
def qdw (f:GFrame) (b:GCase) (c:Int) (e:GCase→Int→Option (GCase × (List GFrame) × Int)) (a:Int) (g:Bool):Option (GCase × (List GFrame) × Int):=(bif g then (idx f.vals c).bind fun h=>(inR a 4).bind fun _=>(qam b.has a).bind fun l=>(qdc b.has a true).bind fun i=>(some ({ b with has:=i }:GCase)).bind fun d=>(inR a 4).bind fun _=>(qam d.values a).bind fun m=>(qdc d.values a h).bind fun j=>(some ({ d with values:=j }:GCase)).bind fun k=>qgd c e k else qgd c e b)
def qbk (a:GFrame) (e:GCase) (f:Int):Nat→GCase→Int→Option (GCase × (List GFrame) × Int)
 | 0,_,_=>none
 | n+1,b,d=>(bif decide (d<(a.at_.length:Int)) then (idx a.at_ d).bind fun c=>(bif decide (c<(b.ops.length:Int)) then (idx b.ops c).bind fun g=>(some (qa6 g.key)).bind fun h=>(bif h==f then (inR c 4).bind fun _=>(qam b.has c).bind fun i=>qdw a b d (qbk a e f n) c (!i) else qdw a b d (qbk a e f n) c false) else qdw a b d (qbk a e f n) c false) else qdm e b)
def qge (fu:Nat) (x3:GFrame) (d29:GCase) (d37:GCase) (r40:Int) (c198:Bool):Option (GCase × (List GFrame) × Int):=(bif c198 then qbk x3 d29 r40 fu d37 0 else qdm d29 d37)
def qgf (fu:Nat) (a:GFrame) (c:GCase) (b:GCase) (d:Int) (e:Bool):Option (GCase × (List GFrame) × Int):=(bif e then (inR a.node 6).bind fun _=>(qam b.known a.node).bind fun h=>(qdc b.known a.node true).bind fun f=>(some ({ b with known:=f }:GCase)).bind fun g=>qdm c g else (bif a.kind==5 then qge fu a c b d b.fixed else qge fu a c b d false))
def qdn (fu:Nat) (f:Int) (a:GFrame) (c:GCase) (b:GCase) (d:Int) (g:Bool):Option (GCase × (List GFrame) × Int):=(bif g then (inR a.node 6).bind fun _=>(qam b.told a.node).bind fun l=>(qdc b.told a.node true).bind fun h=>(some ({ b with told:=h }:GCase)).bind fun e=>(some (qmd e.deps a.deps)).bind fun i=>(some ({ e with deps:=i }:GCase)).bind fun j=>(some (Zr.zd:Vector Int 2)).bind fun k=>qao fu f c j fu k 0 else (bif a.kind==4 then qgf fu a c b d b.fixed else qgf fu a c b d false))
def qio (fu:Nat) (f:GCase) (d:Int) (a:GFrame) (e:GCase):Option (GCase × (List GFrame) × Int):=(qn2 fu f).bind fun g=>(some g).bind fun b=>(some (ofZ a.node)).bind fun c=>(bif a.kind==2 then (bif !b.fixed then (inR a.node 6).bind fun _=>(qam b.told a.node).bind fun h=>(bif !h then (some (qag b.ops c)).bind fun i=>qdn fu d a e b c i else qdn fu d a e b c false) else qdn fu d a e b c false) else qdn fu d a e b c false)
def qe3 (fu:Nat) (a:GCase) (b:Int) (c:GFrame) (d:GCase) (e:Bool):Option (GCase × (List GFrame) × Int):=(bif e then (some a).bind fun f=>some (f,[],3) else qio fu a b c d)
def qip (fu:Nat) (b:GCase) (c:Int) (a:GFrame) (d:GCase):Option (GCase × (List GFrame) × Int):=(some (qaf a)).bind fun e=>(bif e != 0 then (some b).bind fun f=>some (f,[],e) else (bif a.kind==1 then qe3 fu b c a d true else qe3 fu b c a d (a.kind==3)))
def qcw (fu:Nat) (a:GCase) (b:Int) (c:GFrame) (d:Bool):Option (GCase × (List GFrame) × Int):=(bif d then (some a).bind fun e=>some (e,[],2) else qip fu a b c (Zr.zd:GCase))
def qjw (fu:Nat) (a:GCase) (b:Int) (c:GFrame):Option (GCase × (List GFrame) × Int):=(qpz fu a).bind fun d=>(bif !d then qcw fu a b c true else (bif !a.begun then qcw fu a b c true else (bif c.id != b then qcw fu a b c true else (some (qcx a.deps b)).bind fun e=>qcw fu a b c e)))
theorem qr3 {ab:Gq} {o:Gq} {x1:GCase} {p:Int} {d:GFrame} {r:GCase × (List GFrame) × Int} (hA:Agree M w) (t:rep M ab x1) (h:rep M o d) (a:qjw fu x1 p d=some r) :
    Calls Tryz.prog 28 #[Gj ab,Gi p,Gj o] w (Gives M w (fun M' u=>∃ c0 v1,u= .tuple #[Gj c0,v1,Gi r.2.2]∧rep M' c0 r.1∧repL M' v1 r.2.1)):=by
 refine Zk Tryz.func28 195 fun T hT=>?_;have fx:T 0=Gj ab:=hT 0;have a2:T 1=Gi p:=hT 1;have fy:T 2=Gj o:=hT 2;have b:Gm w M [] w:=Zs hA;rw [qjw] at a;refine Qy ?_;refine Ql<|Yq (v:= Gj ab) (cs:=ab) fx rfl b fun e w4 lp b=>Ql (Yq (v:= Gj o) (cs:=o) fy rfl b ?_);intro l _ _ b;refine Ql (Zl U7 b ?_);intro i _ _ b;have bb:rep M (Zr.zc GCase) (Zr.zd:GCase):=Zr.zr;refine Qw 2 rfl<|Qj ?_;refine Qp (fun c g=>∃ am bc bd,Gl w M am∧Gm w am [Gp i bc 62,Gp l o 82,Gp e ab 62] g∧rep am bc bd∧c 1=Gi p∧c 3=Gk e∧c 5=Gk l∧c 6=Gk i∧qip fu x1 p d bd=some r) ?_ ?_;refine Qp (fun c g=>∃ b0 cy,Gl w M b0∧Gm w b0 [Gp i (Zr.zc GCase) 62,Gp l o 82,Gp e ab 62] g∧c 1=Gi p∧c 3=Gk e∧c 5=Gk l∧c 6=Gk i∧c 34= .bool cy∧qcw fu x1 p d cy=some r) ?_ ?_;refine Q1 ?_;have dz:=(rr t);refine Qa (Za Y8 rfl (b.bvB 2 rfl) (X5 dz)) ?_;obtain ⟨d0,fz,a⟩:=Qb a;refine Ql<|Zi (vs:=[Gj (sl ab (0) 24)]) (v:= .bool d0) ziw (Zm rfl) b (qu8 b.agree dz fz) fun lv b=>Qa (Yb rfl)<|Qa (Qd (.bool (!d0)) rfl) ?_;rcases ic a with ⟨d1,a⟩ | ⟨d1,a⟩<;>rw [d1];refine Qw 16 rfl<|Qj ?_;exact ⟨M,true,(Qc _ _ _),b,a2,rfl,rfl,rfl,rfl,a⟩;refine Qg rfl rfl (Qi Uh rfl)<|Qg rfl rfl (Qh (.bool x1.begun) Jf rfl (b.bvB 2 rfl) (Jm (rr t)))<|Qg rfl rfl (Yb rfl)<|Qw 2 rfl ?_;rcases ic a with ⟨d2,a⟩ | ⟨d2,a⟩<;>rw [d2];refine Qw 11 rfl<|Qj ?_;exact ⟨M,true,(Qc _ _ _),b,a2,rfl,rfl,rfl,rfl,a⟩;refine Qg rfl rfl (Qi Yz rfl)<|Qg rfl rfl (Qh (Gi d.id) Z8 rfl (b.bvB 1 rfl) (Z6 (rr h)))<|Qg rfl rfl (Qd _ a2)<|Qg rfl rfl (Ym rfl rfl)<|Qw 2 rfl ?_;rcases ic a with ⟨d3,a⟩ | ⟨d3,a⟩<;>rw [d3];refine Qw 5 rfl<|Qj ?_;exact ⟨M,true,(Qc _ _ _),b,a2,rfl,rfl,rfl,rfl,a⟩;refine Qg rfl rfl (Qi Ky rfl) ?_;obtain ⟨d4,f0,f1⟩:=(Vp (rr t));refine Qg rfl rfl (Qh d4 Zz rfl (b.bvB 2 rfl) f0)<|Qg rfl rfl (Qd _ a2) ?_;obtain ⟨c1,f2,a⟩:=Qz a;refine Vs rfl rfl<|Zi (vs:=[d4,Gi p]) (v:= .bool c1) zc6 (Z4 rfl rfl) b (f2 ▸ (Ug b.agree f1)) fun lw b=>Qa (Q7 (.bool c1) rfl rfl)<|Qj ?_;exact ⟨M,c1,(Qc _ _ _),b,a2,rfl,rfl,rfl,rfl,a⟩;rintro _ _ ⟨b0,cy,b1,b,f3,d5,f4,c2,f5,a⟩;replace t:=Zf b1 t;replace bb:=Zf b1 bb;rw [qcw] at a;refine Q6 a f5 (fun f6 a=>?_) fun f6 a=>?_;refine Qy ?_;have c3:=(rr t);refine Qa (Za Y8 d5 (b.bvB 2 rfl) (X5 c3)) ?_;obtain ⟨_,f7,a⟩:=Qb a;refine Ql<|Z3 0 24 b rfl bb c2 rfl c3 rfl rfl (Lf (rr bb) c3) f7 fun l0 l1 d6 l2 l3 b=>Qw 2 rfl<|Qj ?_;cases a;exact Q2 (V8 (j:=0) rfl c2 rfl rfl (V1 Y8 d6) b rfl (Ze b b1 ⟨_,_,rfl,d6,(Zv _)⟩));refine Qk<|Qe ?_;exact ⟨b0,(Zr.zc GCase),(Zr.zd:GCase),b1,b,bb,f3,d5,f4,c2,a⟩;rintro _ _ ⟨am,bc,bd,a3,b,ar,d7,c4,be,b2,a⟩;replace t:=Zf a3 t;replace h:=Zf a3 h;rw [qip] at a;refine Qt<|Qy ?_;have d8:=(rr h);refine Qa (Za Jl be (b.bvB 1 rfl) (X5 d8)) ?_;obtain ⟨b3,f8,a⟩:=Qz a;refine Ql<|Zi (vs:=[Gj (sl o (0) 7)]) (v:= Gi b3) zhf (Zm rfl) b (f8 ▸ (Xn b.agree d8)) fun l6 b=>Qa (Qf (Gi b3) rfl)<|Qj<|Qy<|Qa (Qd (Gi b3) rfl)<|Qa (Ym rfl rfl)<|Qj ?_;refine Q6 a rfl (fun ga a=>?_) fun ga a=>?_;refine Qy ?_;have c5:=(rr t);refine Qa (Za Y8 c4 (b.bvB 2 rfl) (X5 c5))<|Qa (Qd (Gi b3) rfl) ?_;obtain ⟨_,gb,a⟩:=Qb a;refine Ql<|Z3 0 24 b rfl ar b2 rfl c5 rfl rfl (Lf (rr ar) c5) gb fun l8 l9 d9 ma mb b=>Qw 2 rfl<|Qj ?_;cases a;exact Q2 (V8 (j:=0) rfl b2 rfl rfl (V1 Y8 d9) b rfl (Ze b a3 ⟨_,_,rfl,d9,(Zv _)⟩));refine Qk<|Qe ?_;refine Qp (fun c g=>∃ b4 x z,Gl w am b4∧Gm w b4 [Gp i x 62,Gp l o 82,Gp e ab 62] g∧rep b4 x z∧c 1=Gi p∧c 3=Gk e∧c 5=Gk l∧c 6=Gk i∧qio fu x1 p d z=some r) ?_ ?_;refine Qp (fun c g=>∃ b6 c6,Gl w am b6∧Gm w b6 [Gp i bc 62,Gp l o 82,Gp e ab 62] g∧c 1=Gi p∧c 3=Gk e∧c 5=Gk l∧c 6=Gk i∧c 49= .bool c6∧qe3 fu x1 p d bd c6=some r) ?_ ?_;refine Q1<|Qa (Qi Vk be)<|Qa (Qh (Gi d.kind) Z8 rfl (b.bvB 1 rfl) (Yh (rr h)))<|Qa (Ya rfl rfl)<|Qa (Qd (.bool (d.kind==1)) rfl) ?_;rcases ic a with ⟨ea,a⟩ | ⟨ea,a⟩<;>rw [ea];refine Qw 4 rfl<|Qj ?_;exact ⟨am,true,(Qc _ _ _),b,d7,c4,be,b2,rfl,a⟩;refine Qg rfl rfl (Qi Vk be)<|Qg rfl rfl (Qh (Gi d.kind) Z8 rfl (b.bvB 1 rfl) (Yh (rr h)))<|Qg rfl rfl (Ya rfl rfl)<|Qa (Q7 (.bool (d.kind==3)) rfl rfl)<|Qj ?_;exact ⟨am,(d.kind==3),(Qc _ _ _),b,d7,c4,be,b2,rfl,a⟩;rintro _ _ ⟨b6,c6,b8,b,gc,eb,ge,c7,gf,a⟩;replace t:=Zf b8 t;replace ar:=Zf b8 ar;rw [qe3] at a;refine Q6 a gf (fun gg a=>?_) fun gg a=>?_;refine Qy ?_;have c8:=(rr t);refine Qa (Za Y8 eb (b.bvB 2 rfl) (X5 c8)) ?_;obtain ⟨_,gh,a⟩:=Qb a;refine Ql<|Z3 0 24 b rfl ar c7 rfl c8 rfl rfl (Lf (rr ar) c8) gh fun mf mg ec mh mi b=>Qw 2 rfl<|Qj ?_;cases a;exact Q2 (V8 (j:=0) rfl c7 rfl rfl (V1 Y8 ec) b rfl (Ze b (a3.trans b8) ⟨_,_,rfl,ec,(Zv _)⟩));refine Qk<|Qe ?_;exact ⟨b6,bc,bd,b8,b,ar,gc,eb,ge,c7,a⟩;rintro _ _ ⟨b4,x,z,ca,b,n,cb,ai,au,cc,a⟩;replace t:=Zf ca t;rw [qio] at a;refine Qy ?_;have ed:=(rr t);refine Qa (Za Y8 ai (b.bvB 2 rfl) (X5 ed)) ?_;obtain ⟨gi,gj,a⟩:=Qb a;refine Ql (Yi (vs:=[Gj (sl ab (0) 24)]) (rv:=(fun M' u=>∃ cs,u=Gj cs∧rep M' cs gi)) cb56 (Zm rfl) b (q4p b.agree ed gj) ?_);intro _ a4 _ bg gk b;obtain ⟨_,gl,ee⟩:=gk;subst gl;replace t:=Zf bg t;replace h:=Zf (ca.trans bg) h;replace n:=Zf bg n;obtain ⟨ae,gm,a⟩:=Qb a;refine Ql<|Z3 2 24 b rfl t ai rfl ee rfl rfl (Lf (rr t) ee) gm fun bh mo q mp mq b=>Qj<|Qy<|Qa (Qi Kv au)<|Qa (Qh (Gi d.node) Z8 rfl (b.bvB 1 rfl) (Vb (rr h))) ?_;obtain ⟨aa,gn,a⟩:=Qz a;refine Ql<|Zi (vs:=[Gi d.node]) (v:= Gi aa) zgf (Zm rfl) b (gn ▸ (Xe)) fun mr b=>Qa (Qf (Gi aa) rfl)<|Qj ?_;refine Qp (fun c g=>∃ bi c9 da db dc,Gl w a4 bi∧Gm w bi [Gp i c9 62,Gp l o 82,Gp e db 62] g∧rep bi c9 da∧rep bi db dc∧c 3=Gk e∧c 6=Gk i∧qdm da dc=some r) ?_ ?_;refine Qs ?_;refine Qp (fun c g=>∃ an dd,Gl w a4 an∧Gm w an [Gp i x 62,Gp l o 82,Gp e bh 62] g∧c 1=Gi p∧c 3=Gk e∧c 5=Gk l∧c 6=Gk i∧c 10=Gi aa∧c 56= .bool dd∧qdn fu p d z ae aa dd=some r) ?_ ?_;refine Q1<|Qa (Qi Vk au)<|Qa (Qh (Gi d.kind) Z8 rfl (b.bvB 1 rfl) (Yh (rr h)))<|Qa (Ya rfl rfl)<|Qa (Qd (.bool (d.kind==2)) rfl) ?_;rcases ic a with ⟨ef,a⟩ | ⟨ef,a⟩<;>rw [ef];refine Qg rfl rfl (Qi Ke ai)<|Qg rfl rfl (Qh (.bool ae.fixed) Jf rfl (b.bvB 2 rfl) (Vi (rr q)))<|Qg rfl rfl (Yb rfl)<|Qw 2 rfl ?_;rcases ic a with ⟨eg,a⟩ | ⟨eg,a⟩<;>rw [eg];refine Qg rfl rfl (Qi Kv au)<|Qg rfl rfl (Qh (Gi d.node) Z8 rfl (b.bvB 1 rfl) (Vb (rr h)))<|Qg rfl rfl (Qi Ud ai) ?_;obtain ⟨go,gp,a⟩:=Qm a;refine Qg rfl rfl (Zb J7 rfl rfl go gp) ?_;obtain ⟨gq,gr,a⟩:=Qb a;refine Qg rfl rfl (Qh (.bool gq) Jf rfl (b.bvB 2 rfl) (vp (k:=1) rfl rfl (Ks (rr q)) gr))<|Qg rfl rfl (Yb rfl)<|Qw 2 rfl ?_;rcases ic a with ⟨eh,a⟩ | ⟨eh,a⟩<;>rw [eh];refine Qg rfl rfl (Qi Vo ai) ?_;obtain ⟨ei,gs,gt⟩:=(Yu (rr q));refine Qg rfl rfl (Qh ei Va rfl (b.bvB 2 rfl) gs)<|Qg rfl rfl (Qd (Gi aa) rfl) ?_;obtain ⟨ej,gu,a⟩:=Qz a;refine Vs rfl rfl<|Zi (vs:=[ei,Gi aa]) (v:= .bool ej) zc7 (Z4 rfl rfl) b (gu ▸ (Ki b.agree gt)) fun ms b=>Qw 2 rfl<|Qj ?_;exact ⟨a4,ej,(Qc _ _ _),b,cb,ai,au,cc,rfl,rfl,a⟩;refine Qw 6 rfl<|Qj ?_;exact ⟨a4,false,(Qc _ _ _),b,cb,ai,au,cc,rfl,rfl,a⟩;refine Qw 14 rfl<|Qj ?_;exact ⟨a4,false,(Qc _ _ _),b,cb,ai,au,cc,rfl,rfl,a⟩;refine Qw 19 rfl<|Qj ?_;exact ⟨a4,false,(Qc _ _ _),b,cb,ai,au,cc,rfl,rfl,a⟩;rintro _ _ ⟨an,dd,ao,b,gv,av,bj,de,ek,gw,a⟩;replace h:=Zf ao h;replace n:=Zf ao n;replace q:=Zf ao q;rw [qdn] at a;refine Q6 a gw (fun gx a=>?_) fun gx a=>?_;refine Qy<|Qa (Qi Kv bj)<|Qa (Qh (Gi d.node) Z8 rfl (b.bvB 1 rfl) (Vb (rr h)))<|Qa (Qi Ud av) ?_;obtain ⟨gy,gz,a⟩:=Qm a;refine Qa (Zb J7 rfl rfl gy gz) ?_;obtain ⟨_,g1,a⟩:=Qb a;obtain ⟨_,g2,a⟩:=Qb a;obtain ⟨_,g3,a⟩:=Qb a;refine Ql (Z7 2 1 b q (rb true:rep an _ _) (GCase.u3 (rr q) (vu (k:=1) rfl rfl (Ks (rr q)) (Lf (vp (k:=1) rfl rfl (Ks (rr q)) g1) (rb true:rep an _ _)) g2)) g3 ?_);intro _ _ a5 _ _ b;refine Qj<|Qy<|Qa (Qi Ky av) ?_;obtain ⟨el,g4,g5⟩:=(Vp (rr a5));refine Qa (Qh el Zz rfl (b.bvB 2 rfl) g4)<|Qa (Qi V0 bj) ?_;obtain ⟨em,g6,g7⟩:=(Ys (rr h));refine Qa (Qh em Zz rfl (b.bvB 1 rfl) g6) ?_;obtain ⟨en,g8,a⟩:=Qz a;refine Ql (Yi (vs:=[el,em]) (rv:=(fun M' u=>repL M' u en)) cb57 (Z4 rfl rfl) b (g8 ▸ (q8y b.agree g5 g7)) ?_);intro g9 bk _ cd ha b;have df:repL bk g9 en:=ha;replace n:=Zf cd n;replace a5:=Zf cd a5;refine Qa (Qi Ky av) ?_;obtain ⟨eo,hb,a⟩:=Qb a;refine Ql<|Z3 2 1 b rfl a5 rfl rfl (Qq df) (Q4 df) rfl (GCase.u5 (rr a5) (Lf (Vp (rr a5)) (Qq df))) hb fun ep m3 s m4 m5 b=>Qj<|Qy ?_;have er:rep bk (Zr.zc (Vector Int 2)) (Zr.zd:Vector Int 2):=Zr.zr;refine Qa (qxp zgd q56) ?_;refine Ql (Zl zgd b ?_);intro bl _ hc b;have es:rep bk (Zr.zc (Vector Int 2)) (Zr.zd:Vector Int 2):=Zr.zr;obtain ⟨hd,he,a⟩:=Qb a;refine Ql (Z7 0 2 b es er (Lf (rr es) er) he ?_);intro hf _ hg _ _ b;refine Qj<|Qt<|Qy<|Qa (Qd (Gi 0) rfl)<|Qj<|Qs ?_;refine Zy (fun dg c g=>∃ m bm ce ac,Gl w bk m∧Gm w m [Gp bl bm 118,Gp i x 62,Gp l o 82,Gp e ep 62] g∧rep m bm ce∧c 1=Gi p∧c 3=Gk e∧c 6=Gk i∧c 11=Gk bl∧c 90=Gi ac∧qao fu p z eo dg ce ac=some r) fu ?_ ?_ ?_;exact ⟨bk,hf,hd,(0:Int),(Qc _ _ _),b,hg,gv,av,de,rfl,rfl,a⟩;rintro c g ⟨_,_,_,_,_,_,_,_,_,_,_,_,a⟩;rw [qao] at a;cases a;intro dg;rintro _ _ ⟨m,bm,ce,ac,bn,b,ap,aw,y,ax,ay,cf,a⟩;replace n:=Zf bn n;replace s:=Zf bn s;rw [qao] at a;obtain ⟨hh,et⟩:∃ f,f=qao fu p z eo dg:=⟨_,rfl⟩;rw [← et] at a;refine Qy<|Qa (Zt cf rfl)<|Qj<|Qt ?_;refine Q6 a rfl (fun hi a=>?_) fun hi a=>?_;refine Qk<|Qe ?_;refine Qp (fun c g=>∃ bo cg ch,Gl w m bo∧Gm w bo [Gp bl cg 118,Gp i x 62,Gp l o 82,Gp e ep 62] g∧rep bo cg ch∧c 1=Gi p∧c 3=Gk e∧c 6=Gk i∧c 11=Gk bl∧c 90=Gi ac∧qgc ac hh ch=some r) ?_ ?_;refine Qs<|Qy<|Zj cf<|Qa (Qf (Gi ac) rfl)<|Qj<|Qy<|Qa (Qd (Gi ac) rfl)<|Qa (Qi Ud y) ?_;obtain ⟨hj,hk,a⟩:=Qm a;refine Qa (Zb J7 rfl rfl hj hk) ?_;obtain ⟨hl,hm,a⟩:=Qb a;refine Qa (Qh (.bool hl) Jf rfl (b.bvB 3 rfl) (vp (k:=1) rfl rfl (Ks (rr s)) hm))<|Qj ?_;refine Q6 a rfl (fun hn a=>?_) fun hn a=>?_;refine Q1<|Qa (Qd (Gi ac) rfl) ?_;obtain ⟨ho,hp,a⟩:=Qz a;refine Ql (Zi (vs:=[Gi ac]) (v:= Gi ho) zgf (Zm rfl) b (hp ▸ (Xe)) ?_);intro _ b;obtain ⟨hq,hr,a⟩:=Qm a;refine Qa (Zb q56 ay rfl hq hr) ?_;obtain ⟨dh,hs,a⟩:=Qb a;refine Qa (Qh (Gi dh) Z8 rfl (b.bvB 0 rfl) (vp (k:=1) rfl rfl (rr ap) hs))<|Qa (Zu rfl rfl) ?_;obtain ⟨ht,hu,a⟩:=Qm a;refine Qa (Zb q56 ay rfl ht hu) ?_;obtain ⟨_,hv,a⟩:=Qb a;obtain ⟨_,hw,a⟩:=Qb a;obtain ⟨hx,hy,a⟩:=Qb a;refine Ql (Z7 0 1 b ap (ri (Gr (dh+1)):rep m _ _) (vu (k:=1) rfl rfl (rr ap) (Lf (vp (k:=1) rfl rfl (rr ap) hv) (ri (Gr (dh+1)):rep m _ _)) hw) hy ?_);intro h0 _ h1 _ _ b;refine Yn<|Q8<|Qe ?_;exact ⟨m,h0,hx,(Qc _ _ _),b,h1,aw,y,ax,ay,cf,a⟩;refine Qk<|Q8<|Qe ?_;exact ⟨m,bm,ce,(Qc _ _ _),b,ap,aw,y,ax,ay,cf,a⟩;rintro _ _ ⟨bo,cg,ch,h2,b,h3,h4,h5,h6,h7,h8,a⟩;rw [qgc] at a;refine Q1<|Qa (Zu h8 rfl)<|Qa (Qd (Gi (Gr (ac+1))) rfl)<|Qj ?_;exact ⟨bo,cg,ch,(Gr (ac+1)),(bn.trans h2),b,h3,h4,h5,h6,h7,rfl,(by rw [← et];exact a)⟩;refine Zp<|Qr<|Qr<|Zq<|Qe ?_;refine Qp (fun c g=>∃ bp a6 bq,Gl w m bp∧Gm w bp [Gp bl bm 118,Gp i x 62,Gp l o 82,Gp e a6 62] g∧rep bp a6 bq∧c 1=Gi p∧c 3=Gk e∧c 6=Gk i∧qb8 fu p z bq=some r) ?_ ?_;refine Q1<|Qa (Zb q56 ay rfl Gg Gg) ?_;obtain ⟨eu,h9,a⟩:=Qb a;refine Qa (Qh (Gi eu) Z8 rfl (b.bvB 0 rfl) (vp (k:=1) rfl rfl (rr ap) h9))<|Qa (Y3 rfl rfl)<|Qa (Qd (.bool (decide (eu>1))) rfl) ?_;rcases ic a with ⟨ev,a⟩ | ⟨ev,a⟩<;>rw [ev];refine Qw 6 rfl<|Yt (Zb q56 ay rfl Gg Gg) ?_;obtain ⟨ew,ia,a⟩:=Qb a;refine Yt (Qh (Gi ew) Z8 rfl (b.bvB 0 rfl) (vp (k:=1) rfl rfl (rr ap) ia))<|Yt (Y3 rfl rfl)<|Yt (Qd (.bool (decide (ew>1))) rfl) ?_;rcases ic a with ⟨ex,a⟩ | ⟨ex,a⟩<;>rw [ex];refine Qw 6 rfl<|Qa (Qi Ke y) ?_;obtain ⟨ib,ie,a⟩:=Qb a;refine Ql (Z7 3 1 b s (rb true:rep m _ _) (Uv (rr s) (Lf (Vi (rr s)) (rb true:rep m _ _))) ie ?_);intro ig _ ih _ _ b;refine Qj ?_;exact ⟨m,ig,ib,(Qc _ _ _),b,ih,aw,y,ax,a⟩;refine Qg rfl rfl (Qi Vo y) ?_;obtain ⟨ey,ii,ij⟩:=(Yu (rr s));refine Qg rfl rfl (Qh ey Va rfl (b.bvB 3 rfl) ii) ?_;obtain ⟨di,ik,a⟩:=Qz a;refine Vs rfl rfl<|Zi (vs:=[ey,Gi 1]) (v:= .bool di) zc7 (Z4 rfl rfl) b (ik ▸ (Ki b.agree ij)) fun np b=>Qg rfl rfl (Yb rfl)<|Qw 2 rfl<|Qa (Qi Ke y) ?_;obtain ⟨il,im,a⟩:=Qb a;refine Ql (Z7 3 1 b s (rb (!di):rep m _ _) (Uv (rr s) (Lf (Vi (rr s)) (rb (!di):rep m _ _))) im ?_);intro io _ ip _ _ b;refine Qj ?_;exact ⟨m,io,il,(Qc _ _ _),b,ip,aw,y,ax,a⟩;refine Qg rfl rfl (Qi Vo y) ?_;obtain ⟨ez,iq,ir⟩:=(Yu (rr s));refine Qg rfl rfl (Qh ez Va rfl (b.bvB 3 rfl) iq) ?_;obtain ⟨iu,iv,a⟩:=Qz a;refine Vs rfl rfl<|Zi (vs:=[ez,Gi 0]) (v:= .bool iu) zc7 (Z4 rfl rfl) b (iv ▸ (Ki b.agree ir)) fun nt b=>Qg rfl rfl (Yb rfl)<|Qw 2 rfl ?_;rcases ic a with ⟨e0,a⟩ | ⟨e0,a⟩<;>rw [e0];refine Qg rfl rfl (Zb q56 ay rfl Gg Gg) ?_;obtain ⟨e1,iw,a⟩:=Qb a;refine Qg rfl rfl (Qh (Gi e1) Z8 rfl (b.bvB 0 rfl) (vp (k:=1) rfl rfl (rr ap) iw))<|Qg rfl rfl (Y3 rfl rfl)<|Qg rfl rfl (Qd (.bool (decide (e1>1))) rfl) ?_;rcases ic a with ⟨e2,a⟩ | ⟨e2,a⟩<;>rw [e2];refine Qw 4 rfl<|Qg rfl rfl (Zn (.bool true) rfl rfl)<|Qa (Zn (.bool true) rfl rfl)<|Qa (Qi Ke y) ?_;obtain ⟨ix,iy,a⟩:=Qb a;refine Ql (Z7 3 1 b s (rb true:rep m _ _) (Uv (rr s) (Lf (Vi (rr s)) (rb true:rep m _ _))) iy ?_);intro iz _ i0 _ _ b;refine Qj ?_;exact ⟨m,iz,ix,(Qc _ _ _),b,i0,aw,y,ax,a⟩;refine Qg rfl rfl (Qi Vo y) ?_;obtain ⟨e3,i1,i2⟩:=(Yu (rr s));refine Qg rfl rfl (Qh e3 Va rfl (b.bvB 3 rfl) i1) ?_;obtain ⟨br,i3,a⟩:=Qz a;refine Vs rfl rfl<|Zi (vs:=[e3,Gi 1]) (v:= .bool br) zc7 (Z4 rfl rfl) b (i3 ▸ (Ki b.agree i2)) fun nx b=>Qg rfl rfl (Yb rfl)<|Qg rfl rfl (Q7 (.bool (!br)) rfl rfl)<|Qa (Zn (.bool (!br)) rfl rfl)<|Qa (Qi Ke y) ?_;obtain ⟨i4,i5,a⟩:=Qb a;refine Ql (Z7 3 1 b s (rb (!br):rep m _ _) (Uv (rr s) (Lf (Vi (rr s)) (rb (!br):rep m _ _))) i5 ?_);intro i6 _ i7 _ _ b;refine Qj ?_;exact ⟨m,i6,i4,(Qc _ _ _),b,i7,aw,y,ax,a⟩;refine Qw 10 rfl<|Qa (Qi Ke y) ?_;obtain ⟨i8,i9,a⟩:=Qb a;refine Ql (Z7 3 1 b s (rb false:rep m _ _) (Uv (rr s) (Lf (Vi (rr s)) (rb false:rep m _ _))) i9 ?_);intro ja _ jb _ _ b;refine Qj ?_;exact ⟨m,ja,i8,(Qc _ _ _),b,jb,aw,y,ax,a⟩;rintro _ _ ⟨bp,a6,bq,dj,b,ci,jc,cj,dk,a⟩;replace n:=Zf dj n;rw [qb8] at a;refine Qy<|Qa (Qi Ke cj)<|Qa (Qh (.bool bq.fixed) Jf rfl (b.bvB 3 rfl) (Vi (rr ci)))<|Qj ?_;refine Q6 a rfl (fun jd a=>?_) fun jd a=>?_;refine Qt<|Yp [Gp e a6 62] [] Z2 b fun n6 b e4 dl=>?_;have bs:=(rr ci);refine Yx 0 rfl (Za Y8 cj (Yl 0 rfl) (X5 bs)) dl ?_;have e5:=(rr ci);refine Yx 1 rfl (Za Y8 cj (Yl 0 rfl) (X5 e5)) dl<|Qv 2 rfl (Qd _ jc) dl ?_;obtain ⟨e6,je,a⟩:=Qb a;refine w1 3 rfl (Yi (vs:=[Gj (sl a6 (0) 24),Gi p]) (rv:=(fun M' u=>repL M' u e6)) zis (Z4 rfl rfl) b (qmw b.agree e5 je) ?_);intro e7 jf _ bu jg b;have jh:repL jf e7 e6:=jg;replace n:=Zf bu n;replace bs:=Zf bu bs;refine Yj b (e4.trans bu) fun n8=>?_;obtain ⟨_,ji,a⟩:=Qb a;refine w1 4 rfl<|Z3 1 24 b rfl n dk rfl bs rfl rfl (Lf (rr n) bs) ji fun oa ob e8 oc od b=>Yj b (e4.trans bu) fun e9=>Qv 5 rfl (Qf (e7) rfl) e9<|Qv 6 rfl (Qf (Gi 0) rfl) e9<|wd<|Qe ?_;cases a;exact Q2 (V8 (j:=1) rfl dk rfl rfl (V1 Y8 e8) b rfl (Ze b (a3.trans (ca.trans (bg.trans (ao.trans (cd.trans (bn.trans (dj.trans bu))))))) ⟨_,_,rfl,e8,jh⟩));refine Qk<|Q8<|Qe ?_;exact ⟨bp,x,z,a6,bq,(ao.trans (cd.trans (bn.trans dj))),(Y0 b hc),n,ci,cj,dk,a⟩;refine Qp (fun c g=>∃ aj dm,Gl w an aj∧Gm w aj [Gp i x 62,Gp l o 82,Gp e bh 62] g∧c 3=Gk e∧c 5=Gk l∧c 6=Gk i∧c 10=Gi aa∧c 131= .bool dm∧qgf fu d z ae aa dm=some r) ?_ ?_;refine Q1<|Qa (Qi Vk bj)<|Qa (Qh (Gi d.kind) Z8 rfl (b.bvB 1 rfl) (Yh (rr h)))<|Qa (Ya rfl rfl)<|Qa (Qd (.bool (d.kind==4)) rfl) ?_;rcases ic a with ⟨fa,a⟩ | ⟨fa,a⟩<;>rw [fa];refine Qg rfl rfl (Qi Ke av)<|Qg rfl rfl (Qh (.bool ae.fixed) Jf rfl (b.bvB 2 rfl) (Vi (rr q)))<|Qw 2 rfl<|Qj ?_;exact ⟨an,ae.fixed,(Qc _ _ _),b,av,bj,de,ek,rfl,a⟩;refine Qw 4 rfl<|Qj ?_;exact ⟨an,false,(Qc _ _ _),b,av,bj,de,ek,rfl,a⟩;rintro _ _ ⟨aj,dm,a7,b,bv,ck,dn,fb,jj,a⟩;replace h:=Zf a7 h;replace n:=Zf a7 n;replace q:=Zf a7 q;rw [qgf] at a;refine Q6 a jj (fun jk a=>?_) fun jk a=>?_;refine Q1<|Qa (Qi Kv ck)<|Qa (Qh (Gi d.node) Z8 rfl (b.bvB 1 rfl) (Vb (rr h)))<|Qa (Qi Xo bv) ?_;obtain ⟨jl,jm,a⟩:=Qm a;refine Qa (Zb J7 rfl rfl jl jm) ?_;obtain ⟨_,jn,a⟩:=Qb a;obtain ⟨_,jo,a⟩:=Qb a;obtain ⟨jp,jq,a⟩:=Qb a;refine Ql (Z7 2 1 b q (rb true:rep aj _ _) (GCase.u4 (rr q) (vu (k:=1) rfl rfl (Jx (rr q)) (Lf (vp (k:=1) rfl rfl (Jx (rr q)) jn) (rb true:rep aj _ _)) jo)) jq ?_);intro jr _ js _ _ b;refine Yn<|Q8<|Qe ?_;exact ⟨aj,x,z,jr,jp,(ao.trans a7),b,n,js,bv,dn,a⟩;refine Qp (fun c g=>∃ a8 dp,Gl w aj a8∧Gm w a8 [Gp i x 62,Gp l o 82,Gp e bh 62] g∧c 3=Gk e∧c 5=Gk l∧c 6=Gk i∧c 10=Gi aa∧c 143= .bool dp∧qge fu d z ae aa dp=some r) ?_ ?_;refine Q1<|Qa (Qi Vk ck)<|Qa (Qh (Gi d.kind) Z8 rfl (b.bvB 1 rfl) (Yh (rr h)))<|Qa (Ya rfl rfl)<|Qa (Qd (.bool (d.kind==5)) rfl) ?_;rcases ic a with ⟨fc,a⟩ | ⟨fc,a⟩<;>rw [fc];refine Qg rfl rfl (Qi Ke bv)<|Qg rfl rfl (Qh (.bool ae.fixed) Jf rfl (b.bvB 2 rfl) (Vi (rr q)))<|Qw 2 rfl<|Qj ?_;exact ⟨aj,ae.fixed,(Qc _ _ _),b,bv,ck,dn,fb,rfl,a⟩;refine Qw 4 rfl<|Qj ?_;exact ⟨aj,false,(Qc _ _ _),b,bv,ck,dn,fb,rfl,a⟩;rintro _ _ ⟨a8,dp,bw,b,fd,fe,ff,jt,ju,a⟩;replace h:=Zf bw h;replace n:=Zf bw n;replace q:=Zf bw q;rw [qge] at a;refine Q6 a ju (fun jv a=>?_) fun jv a=>?_;refine Qy<|Qa (Qi Kw fe) ?_;obtain ⟨cl,jw,cm⟩:=(Vc (rr h));refine Qa (Qh cl Zz rfl (b.bvB 1 rfl) jw) ?_;obtain ⟨_,_,jx,_⟩:=Q0 cm;refine Qa (Zo Qn (Vz jx rfl))<|Qa (Qd (Gi 0) rfl)<|Qj<|Qs ?_;refine Zy (fun dq c g=>∃ af a9 az ag,Gl w a8 af∧Gm w af [Gp i x 62,Gp l o 82,Gp e a9 62] g∧rep af a9 az∧c 3=Gk e∧c 5=Gk l∧c 6=Gk i∧c 10=Gi aa∧c 152=cl∧c 153=Gi (d.at_.length:Int)∧c 154=Gi ag∧qbk d z aa dq az ag=some r) fu ?_ ?_ ?_;exact ⟨a8,bh,ae,(0:Int),(Qc _ _ _),b,q,fd,fe,ff,jt,rfl,rfl,rfl,a⟩;rintro c g ⟨_,_,_,_,_,_,_,_,_,_,_,_,_,_,a⟩;rw [qbk] at a;cases a;intro dq;rintro _ _ ⟨af,a9,az,ag,bx,b,ad,a0,dr,cn,co,cp,cq,ba,a⟩;replace h:=Zf bx h;replace n:=Zf bx n;replace cm:=Qo bx.1 cm;rw [qbk] at a;obtain ⟨fg,fh⟩:∃ f,f=qbk d z aa dq:=⟨_,rfl⟩;rw [← fh] at a;refine Qy<|Qa (Zt ba cq)<|Qj<|Qt ?_;refine Q6 a rfl (fun jy a=>?_) fun jy a=>?_;refine Qk<|Qe ?_;refine Qp (fun c g=>∃ bz cr ct,Gl w af bz∧Gm w bz [Gp i x 62,Gp l o 82,Gp e cr 62] g∧rep bz cr ct∧c 3=Gk e∧c 5=Gk l∧c 6=Gk i∧c 10=Gi aa∧c 152=cl∧c 153=Gi (d.at_.length:Int)∧c 154=Gi ag∧qgd ag fg ct=some r) ?_ ?_;refine Qs<|Qy<|Zj ba ?_;obtain ⟨a1,_,_,_,_,jz,j0,j1,j2,j3,a⟩:=Yc 1 cm a;refine Qa (Yr Kx cp jz ba j0 j1)<|Qa (Qh (Gi a1) Z8 rfl (b.bvM j2) j3)<|Qw 2 rfl<|Qj ?_;refine Qp (fun c g=>∃ ak ds,Gl w af ak∧Gm w ak [Gp i x 62,Gp l o 82,Gp e a9 62] g∧c 3=Gk e∧c 5=Gk l∧c 6=Gk i∧c 10=Gi aa∧c 13=Gi ag∧c 14=Gi a1∧c 152=cl∧c 153=Gi (d.at_.length:Int)∧c 154=Gi ag∧c 181= .bool ds∧qdw d az ag fg a1 ds=some r) ?_ ?_;refine Q1<|Qa (Qd (Gi a1) rfl)<|Qa (Qi Vo a0) ?_;obtain ⟨j4,j5,j6⟩:=(Yu (rr ad));refine Qa (Qh j4 Va rfl (b.bvB 2 rfl) j5) ?_;obtain ⟨_,_,j7,_⟩:=Q0 j6;refine Qa (Zo Zx (Vz j7 rfl))<|Qa (Zt rfl rfl)<|Qa (Qd (.bool (decide (a1<(az.ops.length:Int)))) rfl) ?_;rcases ic a with ⟨fi,a⟩ | ⟨fi,a⟩<;>rw [fi];refine Qg rfl rfl (Qi Vo a0) ?_;obtain ⟨j8,j9,ka⟩:=(Yu (rr ad));refine Qg rfl rfl (Qh j8 Va rfl (b.bvB 2 rfl) j9)<|Qg rfl rfl (Qd (Gi a1) rfl) ?_;obtain ⟨fj,_,_,_,_,kb,kc,kd,ke,kf,a⟩:=Yc 3 ka a;refine Qg rfl rfl (Yr zaf rfl kb rfl kc kd)<|Qg rfl rfl (Qi J2 rfl)<|Qg rfl rfl (Qh (Gi fj.key) Z8 rfl (b.bvM ke) (J3 kf)) ?_;obtain ⟨kg,kh,a⟩:=Qz a;refine Vs rfl rfl<|Zi (vs:=[Gi fj.key]) (v:= Gi kg) ziz (Zm rfl) b (kh ▸ (qu2)) fun o5 b=>Qg rfl rfl (Qd _ co)<|Qg rfl rfl (Ya rfl rfl)<|Qw 2 rfl ?_;rcases ic a with ⟨fk,a⟩ | ⟨fk,a⟩<;>rw [fk];refine Qg rfl rfl (Qd (Gi a1) rfl)<|Qg rfl rfl (Qi Uq a0) ?_;obtain ⟨ki,kj,a⟩:=Qm a;refine Qg rfl rfl (Zb zcx rfl rfl ki kj) ?_;obtain ⟨dt,kk,a⟩:=Qb a;refine Qg rfl rfl (Qh (.bool dt) Jf rfl (b.bvB 2 rfl) (vp (k:=1) rfl rfl (Jb (rr ad)) kk))<|Qg rfl rfl (Yb rfl)<|Qa (Zn (.bool (!dt)) rfl rfl)<|Qj ?_;exact ⟨af,(!dt),(Qc _ _ _),b,a0,dr,cn,co,rfl,rfl,cp,cq,ba,rfl,a⟩;refine Qw 6 rfl<|Qj ?_;exact ⟨af,false,(Qc _ _ _),b,a0,dr,cn,co,rfl,rfl,cp,cq,ba,rfl,a⟩;refine Qw 17 rfl<|Qj ?_;exact ⟨af,false,(Qc _ _ _),b,a0,dr,cn,co,rfl,rfl,cp,cq,ba,rfl,a⟩;rintro _ _ ⟨ak,ds,cu,b,cv,du,fl,fm,kl,fn,fo,fp,fq,km,a⟩;replace h:=Zf cu h;replace ad:=Zf cu ad;rw [qdw] at a;refine Q6 a km (fun kn a=>?_) fun kn a=>?_;refine Yp [Gp l o 82] [] Z2 b fun o8 b fr ah=>Qv 0 rfl (Qd _ fn) ah<|Qv 1 rfl (Qd _ fn) ah<|Qv 2 rfl (Qi Je du) ah ?_;obtain ⟨ko,kp,kq⟩:=(Vr (rr h));refine Yx 3 rfl (Qh ko Zz rfl (Yl 0 rfl) kp) ah<|Qv 4 rfl (Qd _ kl) ah ?_;obtain ⟨dv,_,_,_,_,kr,ks,kt,ku,kv,a⟩:=Yc 1 kq a;refine Qv 5 rfl (Yr Kx rfl kr rfl ks kt) ah<|Yx 6 rfl (Qh (Gi dv) Z8 rfl (zcf ku) kv) ah<|Qv 7 rfl (Qi Uq cv) ah ?_;obtain ⟨kw,kx,a⟩:=Qm a;refine Qv 8 rfl (Zb zcx rfl rfl kw kx) ah<|Qv 10 rfl (Qi Xp cv) ah ?_;obtain ⟨_,ky,a⟩:=Qb a;obtain ⟨_,kz,a⟩:=Qb a;obtain ⟨_,k0,a⟩:=Qb a;refine w1 9 rfl (Z7 2 1 b ad (rb true:rep ak _ _) (GCase.u6 (rr ad) (vu (k:=1) rfl rfl (Jb (rr ad)) (Lf (vp (k:=1) rfl rfl (Jb (rr ad)) ky) (rb true:rep ak _ _)) kz)) k0 ?_);intro _ _ cw _ _ b;refine Yj b fr fun k1=>?_;obtain ⟨k2,k3,a⟩:=Qm a;refine Qv 11 rfl (Zb zft rfl rfl k2 k3) k1 ?_;obtain ⟨_,k4,a⟩:=Qb a;obtain ⟨_,k5,a⟩:=Qb a;obtain ⟨k6,k7,a⟩:=Qb a;refine w1 12 rfl (Z7 2 1 b cw (ri dv:rep ak _ _) (GCase.u7 (rr cw) (vu (k:=1) rfl rfl (Jy (rr cw)) (Lf (vp (k:=1) rfl rfl (Jy (rr cw)) k4) (ri dv:rep ak _ _)) k5)) k7 ?_);intro k8 _ k9 _ _ b;refine Yj b fr fun pq=>wd<|Q8<|Qe ?_;exact ⟨ak,k8,k6,cu,b,k9,cv,du,fl,fm,fo,fp,fq,a⟩;refine Qk<|Q8<|Qe ?_;exact ⟨ak,a9,az,cu,b,ad,cv,du,fl,fm,fo,fp,fq,a⟩;rintro _ _ ⟨bz,cr,ct,la,b,lb,lc,ld,lf,lg,lh,li,lj,a⟩;rw [qgd] at a;refine Q1<|Qa (Zu lj rfl)<|Qa (Qd (Gi (Gr (ag+1))) rfl)<|Qj ?_;exact ⟨bz,cr,ct,(Gr (ag+1)),(bx.trans la),b,lb,lc,ld,lf,lg,lh,li,rfl,(by rw [← fh];exact a)⟩;refine Zp<|Qr<|Qr<|Zq<|Q8<|Qe ?_;exact ⟨af,x,z,a9,az,(ao.trans (a7.trans (bw.trans bx))),b,n,ad,a0,cn,a⟩;refine Qk<|Q8<|Qe ?_;exact ⟨a8,x,z,bh,ae,(ao.trans (a7.trans bw)),b,n,q,fd,ff,a⟩;rintro _ _ ⟨bi,c9,da,db,dc,lk,b,fs,ll,lm,ft,a⟩;rw [qdm] at a;refine Qy ?_;have dw:=(rr ll);refine Qa (Za Y8 lm (b.bvB 2 rfl) (X5 dw)) ?_;obtain ⟨_,ln,a⟩:=Qb a;refine Ql<|Z3 0 24 b rfl fs ft rfl dw rfl rfl (Lf (rr fs) dw) ln fun px py fv pz p0 b=>Qw 2 rfl<|Qj ?_;cases a;exact Q2 (V8 (j:=0) rfl ft rfl rfl (V1 Y8 fv) b rfl (Ze b (a3.trans (ca.trans (bg.trans lk))) ⟨_,_,rfl,fv,(Zv _)⟩))
abbrev Dq := @List.length_set
section
variable {P:Program} {S:World→Prop} {n:Nat} {Q:Exit→Tm→World→Prop} {T:Tm} {w w0:World} {X:Nat→Prop} {M:Mm} {H:List Ent} {K:Tm→World→Prop} {dst:Option Tmp} {ty:TypeId} {pos:String} {af:Array Edge} {g:Option (Nat × Bool)}
theorem zjn (j:Nat) {v:Value} {e:TypeId} {k:Nat} {xs:List Value} {b:Nat} (hj:H[j]? = some (.stk v e k xs)) (hb:v.ownBlock=some b):BV (Rd M H) b xs:=fun w h=>by
 obtain ⟨m,hown⟩:=h.2.2 v e k xs (Af hj);obtain ⟨h1,⟨rfl,rfl⟩ | ⟨b',cap,cur,rfl,_,hh,hc,_,_,htk⟩⟩:=hown
 ·cases hb
 ·cases hb;exact ⟨cur,e,(0,0),hh,by rw [← htk];exact Dx _ _⟩
theorem zd7 {cur ws:List Value} {o m:Nat} (h:o+ws.length≤m) (hm:m≤cur.length):(pt cur o ws).take m=pt (cur.take m) o ws:=by
 refine D7 fun j=>?_;rw [Bl,q4v Gf,q4v (by rw [Bw];omega),Bl];by_cases hj:j<m
 ·rw [if_pos hj,if_pos hj]
 ·rw [if_neg hj,if_neg hj,if_neg Gf]
theorem St.writeS {v:Value} {e:TypeId} {k b:Nat} {xs cs' xs':List Value} {nn cap:Nat} {cur:Array Value} (h:St w0 X M (.stk v e k xs::H) w) (hv:v= .slice (some ⟨b,0,none⟩) nn cap) (hl:xs'.length=nn*k) (hcap:nn≤cap) (hmax:cap≤maxLen) (hcs:cs'.length=cap*k) (htk:cs'.take (nn*k)=xs')
 {w':World} (hos:w'.os=w.os) (htp:w'.tape=w.tape) (hout:w'.output=w.output) (hb:w'.heap[b]? = some (.cells cs'.toArray e (0,0))) (ho:∀ k,k≠b→w'.heap[k]? = w.heap[k]?) (hsz:w'.heap.size=w.heap.size):St w0 X M (.stk v e k xs'::H) w':=by
 have hob:v.ownBlock=some b:=by rw [hv];rfl
 have hM:M b=none:=(h.ents _ Aa).2 b hob;have hmine:=h.mine _ Aa b hob;refine ⟨hos.trans h.os,htp.trans h.tape,hout.trans h.output,by rw [hsz];exact h.size,fun k hk hno=>?_,fun k p hk=>?_,fun e he=>?_,fun e he c hc=>?_,?_⟩
 ·rw [ho k (fun e=>by subst e;rcases hmine with hx | hx;exact hno hx;omega)];exact h.frame k hk hno
 ·have hkb:k≠b:=fun e=>by subst e;rw [hM] at hk;cases hk
  rw [ho k hkb];exact h.agree k p hk
 ·rcases Ab.1 he with rfl | he'
  ·exact ⟨⟨nn,hl,.inr ⟨b,cap,cs'.toArray,hv,Ao _,hb,hcap,hmax,by simpa using hcs,by simpa using htk⟩⟩,(h.ents _ Aa).2⟩
  ·refine Ent.kept (h.ents e (X8 _ he')) fun c hc=>⟨ho c fun heq=>?_,rfl⟩;subst heq;exact (A6.1 h.apart).1 e he' c hob hc
 ·rcases Ab.1 he with rfl | he'
  ·exact h.mine _ Aa c hc
  ·exact h.mine e (X8 _ he') c hc
 ·exact .cons (fun e he c hc=>(A6.1 h.apart).1 e he c hc) (A6.1 h.apart).2
theorem zjo {α : Type} [Rep α] (j:Nat) {b o off nn cap:Nat} {i:Int} {t e:TypeId} {x y:Operand} {v u:Value} {xs ws:List Value} {l:List α} {z : α} (hSt:St w0 X M H w) (hj:H[j]? = some (.stk v e (Rep.k α) xs)) (h1:skr M v xs l) (hv:v= .slice (some ⟨b,o,none⟩) nn cap)
 (hx:evT T x= .pointer (some ⟨b,off,none⟩)) (hoff:off=o+i.toNat*Rep.k α) (hi0:0≤i) (hi:i<(l.length:Int)) (hy:evT T y=u) (hr:rep M ws z) (hu:u.cells.toList=ws) (hn:(P.info? t).map (·.size)=some (Rep.k α))
 (k:∀ xs' w',skr M v xs' (l.set i.toNat z)→St w0 X M (H.set j (.stk v e (Rep.k α) xs')) w'→K T w'):OW P n Q ⟨none,.store t x y,ty,pos,af,g⟩ T w K:=by
 have hF:=hSt.perm (qgm hj);obtain ⟨⟨m,hown⟩,hM⟩:=hF.ents _ Aa;obtain ⟨⟨a1,cap1,hv1,hcap1⟩,hb1,hl1,hr1⟩:=h1;have hlen:=X5 hr;obtain ⟨hxl,⟨hv2,_⟩ | ⟨b',cap',cur,hv2,_,hh,hc1,hc2,hc3,htk⟩⟩:=hown
 ·rw [hv] at hv2;simp at hv2
 ·rw [hv] at hv1 hv2;simp only [Value.slice.injEq,Option.some.injEq,Addr.mk.injEq] at hv1 hv2;obtain ⟨⟨rfl,rfl,_⟩,rfl,rfl⟩:=hv2;have hnl:nn=l.length:=hv1.2.1;have hil:i.toNat<l.length:=by omega
  have hik:=An (Rep.k α) (show i.toNat+1≤l.length from hil);rw [Az,Be] at hik;have hnk:nn*Rep.k α ≤ cap*Rep.k α := An _ hc1;have hoff':off=0+(i.toNat*Rep.k α):=hoff;have hcur:w.heap[b]? = some (.cells cur.toList.toArray e (0,0)):=by simpa using hh
  have hcl:cur.toList.length=cap*Rep.k α := by simpa using hc3
  obtain ⟨w',hrun,e1,e2,e3,e4,e5,e6⟩:=qjy (P:=P) (o:=off) ws 0 w cur.toList hcur (by rw [hlen,hcl];omega) (Rep.one hr);have hsz:u.cells.size=Rep.k α := by rw [← hlen,← hu];simp
  have htk':cur.toList.take (nn*Rep.k α)=xs:=htk;have hxs':(pt cur.toList off ws).take (nn*Rep.k α)=pt xs off ws:=by
   rw [zd7 (by rw [hlen];omega) (by rw [hcl];exact hnk),htk']
  have hw:=hF.writeS (cs':=pt cur.toList off ws) (xs':=pt xs off ws) (cur:=cur) hv (by rw [qkj (by rw [hlen,hxl];omega)];exact hxl) hc1 hc2 (by rw [qkj (by rw [hlen,hcl];omega)];exact hcl) hxs' e1 e2 e3 e4 e5 e6;refine OW.of_skip (w':=w') ?_ (k _ w' ⟨⟨some ⟨b,0,none⟩,cap,?_,?_⟩,?_,?_,fun q a hq=>?_⟩ (hw.perm (qid _ hj)))
  ·simp [execOp,hx,hy,Instr.storeAt,Instr.sureAddr,storeVar,Ae,qax hn,hsz,hu,hrun]
  ·rw [Dq,← hnl];exact hv
  ·rw [Dq];omega
  ·rw [Dq];exact hb1
  ·rw [Dq,qkj (by rw [hlen,hxl];omega)];exact hl1
  ·rw [Ew] at hq;by_cases e':i.toNat=q
   ·subst e';rw [if_pos rfl,if_pos hil] at hq;cases hq;rw [hoff',B7,qsd Gf hlen];exact hr
   ·rw [if_neg e'] at hq;have hql:=(X6.1 hq).1;have hqk:q*Rep.k α + Rep.k α ≤ i.toNat*Rep.k α ∨ i.toNat*Rep.k α + Rep.k α ≤ q*Rep.k α := by
     rcases D4 e' with h | h
     ·right;have:=An (Rep.k α) (show i.toNat+1≤q from h);rw [Az,Be] at this;exact this
     ·left;have:=An (Rep.k α) (show q+1≤i.toNat from h);rw [Az,Be] at this;exact this
    rw [hoff',B7,qi3 (by rw [hl1];omega) Gf];exact hr1 q a hq
end
section
variable {P:Program} {n:Nat} {Q:Exit→Tm→World→Prop} {Q':Exit→Act→World→Prop} {T:Tm} {w w0:World} {X:Nat→Prop} {M:Mm} {H:List Ent} {l:List Oper} {S S':World→Prop} {B B':Nat→Bool}
theorem qwo {L:Array Bool} {i b:Nat} (h:L.getD b true=true):(L.setIfInBounds i true).getD b true=true:=by
 by_cases e:i=b
 ·subst e;rw [A4,Array.getElem?_setIfInBounds_self];split<;>rfl
 ·rw [getD_set_ne true e];exact h
theorem q2t {ops:Array Oper} {md:Region.Mode} {b:Nat} (hb:B b=true):∀ (fuel:Nat) (listed:Array Bool) (a:Act) (w:World),listed.getD b true=true→wpAny P md ops Q' fuel listed a w→qqk P md ops Q' S B fuel listed a w
 | 0,_,_,_,_,h=>h
 | fuel+1,listed,a,w,hl,h=>by
  refine ⟨h.1,fun i hi=>wpOp_mono (fun a' w' h'=>⟨fun hn=>?_,q2t hb fuel _ a' w' (qwo hl) h'⟩) (h.2 i hi)⟩;have h1:=qwo (i:=i) hl;rw [hn b hb] at h1;cases h1
theorem zd8 (H0:List Ent) (bl:List Nat) {f:Nat} {L:List Bool} (hSt:St w0 X M H w) (h:Mm.ext w0.heap.size X M M→Rd M H0 w→WB P n l Q (Rd M H0) (inL bl) f L T w) (hv:qu1 B L=false:=by kernel_rfl) (hs:∀ e∈H0,e∈H:=by simp):WB P n l Q S B f L T w:=by
 intro hok a ha;have h1:=h (Mm.ext.refl _ _ _) (Rd.of hSt (Mm.ext.refl w0.heap.size X M) hs) hok a ha;obtain ⟨b,hb,hl⟩:∃ b,B b=true∧L.toArray.getD b true=true:=by
  obtain ⟨b,_,hb⟩:=List.all_eq_false.1 hv;refine ⟨b,?_,?_⟩
  ·cases hB:B b
   ·rw [hB] at hb;exact absurd rfl hb
   ·rfl
  ·cases hx:L.getD b true
   ·rw [hx] at hb;simp at hb
   ·have e:L.toArray.getD b true=L.getD b true:=by simp [A4,Ay]
    rw [e,hx]
 exact q2t hb _ _ _ _ hl (qsg _ _ _ _ h1)
end
abbrev Ux := @zfs
abbrev Vv := @GRefCluster.p5
abbrev Uy := @GRefCluster.u0
abbrev V7 := @GRefCluster.p0
abbrev Kl := @GRefCluster.p2
abbrev K6 := @GRefCluster.p3
abbrev Xd := @zfq
abbrev Vg := @GRefCluster.p1
abbrev Uz := @GRefCluster.u1
abbrev U0 := @GRefCluster.p6
abbrev Ua := @zfr
abbrev K1 := @Tryz.underlying42
def ql4 (b:ByteArray) (a:ByteArray):Option (ByteArray × Int):=(bif decide ((Gr ((b.size:Int)+(a.size:Int)))>65534) then some (b,5) else (some (strOfNums [(Gr (Int.tdiv (a.size:Int) 256))%256])).bind fun c=>(cat b c).bind fun d=>(some (strOfNums [(Int.tmod (a.size:Int) 256)%256])).bind fun e=>(cat d e).bind fun f=>(cat f a).bind fun g=>some (g,0))
def qfe (x1:ByteArray) (x2:ByteArray) (c25:Bool):Option (ByteArray × Int):=(bif c25 then some (x1,1) else ql4 x1 x2)
def qlb (fu:Nat) (x1:ByteArray) (x2:ByteArray):Option (ByteArray × Int):=(bif decide ((x1.size:Int)>65536) then some (x1,2) else (bif x2.toList==(⟨#[]⟩:ByteArray).toList then qfe x1 x2 true else qfe x1 x2 (decide ((x2.size:Int)>400))))
theorem qwp {d:ByteArray} {c:ByteArray} {r:ByteArray × Int} (u:Agree M w)  (a:qlb fu d c=some r) :
    Calls Tryz.prog 55 #[.string d,.string c] w (qav w (.tuple #[.string r.1,Gi r.2])):=by
 refine Zk Tryz.func55 38 fun T q=>?_;have f:T 0= .string d:=q 0;have g:T 1= .string c:=q 1;have b:Gm w M [] w:=Zs u;rw [qlb] at a;refine Qy<|Qw 2 rfl<|Qj<|Qt<|Qy<|Zj f<|Qa (Vl Qu rfl)<|Qa (Y3 rfl rfl)<|Qj ?_;refine Q6 a rfl (fun x a=>?_) fun x a=>?_;refine Qy<|Zj f<|Qw 2 rfl<|Qj ?_;cases a;exact Q2 (Uo rfl rfl rfl ⟨rfl,b.kept⟩);refine Qk<|Qe ?_;refine Qp (fun e j=>∃ k,Gl w M k∧Gm w k [] j∧e 0= .string d∧e 1= .string c∧ql4 d c=some r) ?_ ?_;refine Qp (fun e j=>∃ h l,Gl w M h∧Gm w h [] j∧e 0= .string d∧e 1= .string c∧e 16= .bool l∧qfe d c l=some r) ?_ ?_;refine Q1<|Zj g<|Qa (zet rfl rfl)<|Qa (Qd (.bool (c.toList==(⟨#[]⟩:ByteArray).toList)) rfl) ?_;rcases ic a with ⟨s,a⟩ | ⟨s,a⟩<;>rw [s];refine Qw 4 rfl<|Qj ?_;exact ⟨M,true,(Qc _ _ _),b,f,g,rfl,a⟩;refine Qg rfl rfl (Qd _ g)<|Qg rfl rfl (Vl Qu rfl)<|Qg rfl rfl (Y3 rfl rfl)<|Qa (Q7 (.bool (decide ((c.size:Int)>400))) rfl rfl)<|Qj ?_;exact ⟨M,(decide ((c.size:Int)>400)),(Qc _ _ _),b,f,g,rfl,a⟩;rintro _ _ ⟨h,l,y,b,t,z,aa,a⟩;rw [qfe] at a;refine Q6 a aa (fun ab a=>?_) fun ab a=>?_;refine Qy<|Zj t<|Qw 2 rfl<|Qj ?_;cases a;exact Q2 (Uo rfl rfl rfl ⟨rfl,b.kept⟩);refine Qk<|Qe ?_;exact ⟨h,y,b,t,z,a⟩;rintro _ _ ⟨k,_,b,m,i,a⟩;rw [ql4] at a;refine Qt<|Qy<|Zj m<|Qa (Vl Qu rfl)<|Zj i<|Qa (Vl Qu rfl)<|Qa (Zu rfl rfl)<|Qa (Y3 rfl rfl)<|Qj ?_;refine Q6 a rfl (fun ac a=>?_) fun ac a=>?_;refine Qy<|Zj m<|Qw 2 rfl<|Qj ?_;cases a;exact Q2 (Uo rfl rfl rfl ⟨rfl,b.kept⟩);refine Qk<|Qe<|Qy<|Zj m<|Zj i<|Qa (Vl Qu rfl)<|Qa (zep rfl rfl Gg) ?_;obtain ⟨ad,ae,a⟩:=Qz a;refine Ql (Zi (vs:=[Gi (Gr (Int.tdiv (c.size:Int) 256))]) (v:= .string ad) X1 (Zm rfl) b (ae ▸ (Kr)) ?_);intro _ b;obtain ⟨_,n,a⟩:=Qb a;obtain ⟨af,n⟩:=Vy n;refine Qa ((n ▸ J5 rfl rfl af))<|Zj i<|Qa (Vl Qu rfl)<|Qa (zeq rfl rfl Gg) ?_;obtain ⟨ag,ah,a⟩:=Qz a;refine Ql (Zi (vs:=[Gi (Int.tmod (c.size:Int) 256)]) (v:= .string ag) X1 (Zm rfl) b (ah ▸ (Kr)) ?_);intro _ b;obtain ⟨_,o,a⟩:=Qb a;obtain ⟨ai,o⟩:=Vy o;refine Qa ((o ▸ J5 rfl rfl ai))<|Zj i ?_;obtain ⟨_,p,a⟩:=Qb a;obtain ⟨aj,p⟩:=Vy p;refine Qa ((p ▸ J5 rfl rfl aj))<|Qw 2 rfl<|Qj ?_;cases a;exact Q2 (Uo rfl rfl rfl ⟨rfl,b.kept⟩)
def qi1 (x1:ByteArray) (l6:List ByteArray) (s8:ByteArray):Option ((List ByteArray) × Int) := some (l6,Gr ((x1.size:Int)-(s8.size:Int)))
def qov (e:List ByteArray) (a:ByteArray) (f:(List ByteArray)→ByteArray→Option ((List ByteArray) × Int)) (b:Int) (c:Int):Option ((List ByteArray) × Int):=(qs7 a (some 2) (some (Gr (2+(Gr ((Gr (256*(Gr b)))+(Gr c))))))).bind fun d=>(q29 d).bind fun _=>(app e ([d]:List ByteArray)).bind fun g=>(qs7 a (some (Gr (2+(Gr ((Gr (256*(Gr b)))+(Gr c)))))) none).bind fun h=>f g h
def qep (x1:ByteArray) (l14:List ByteArray) (s16:ByteArray) (rec17:(List ByteArray)→ByteArray→Option ((List ByteArray) × Int)) (c22:Int) (c24:Int) (c45:Bool):Option ((List ByteArray) × Int):=(bif c45 then qi1 x1 l14 s16 else qov l14 s16 rec17 c22 c24)
def qdx (b:ByteArray):Nat→(List ByteArray)→ByteArray→Option ((List ByteArray) × Int)
 | 0,_,_=>none
 | n+1,e,a=>(bif decide ((a.size:Int)≥2) then (qkl a 0).bind fun c=>(qkl a 1).bind fun d=>(bif (Gr ((Gr (256*(Gr c)))+(Gr d)))==0 then qep b e a (qdx b n) c d true else (bif decide ((Gr ((Gr (256*(Gr c)))+(Gr d)))>400) then qep b e a (qdx b n) c d true else qep b e a (qdx b n) c d (decide ((a.size:Int)<(Gr (2+(Gr ((Gr (256*(Gr c)))+(Gr d))))))))) else qi1 b e a)
def qr4 (fu:Nat) (x1:ByteArray):Option ((List ByteArray) × Int) := qdx x1 fu ([]:List ByteArray) x1
theorem q7g {d:ByteArray} {r:(List ByteArray) × Int} (hA:Agree M w)  (a:qr4 fu d=some r) :
    Calls Tryz.prog 24 #[.string d] w (Gives M w (fun M' u=>∃ v0,u= .tuple #[v0,Gi r.2]∧repL M' v0 r.1)):=by
 refine Zk Tryz.func24 49 fun T hT=>?_;have al:T 0= .string d:=hT 0;have b:Gm w M [] w:=Zs hA;rw [qr4] at a;refine Qy<|Qw 2 rfl<|Qj<|Qy<|Qa (Qf ((.slice none 0 0)) rfl)<|Qj<|Qy<|Zj al<|Qa (Qf (.string d) rfl)<|Qj ?_;replace b:=b.nilRow 9 1;refine Qp (fun c n=>∃ t v l6 s8,Gl w M t∧Gm w t [.row v 9 1] n∧repL t v l6∧c 0= .string d∧c 4=v∧c 5= .string s8∧qi1 d l6 s8=some r) ?_ ?_;refine Qs ?_;refine Zy (fun ad c n=>∃ k m p i,Gl w M k∧Gm w k [.row m 9 1] n∧repL k m p∧c 0= .string d∧c 4=m∧c 5= .string i∧qdx d ad p i=some r) fu ?_ ?_ ?_;exact ⟨M,(.slice none 0 0),([]:List ByteArray),d,(Qc _ _ _),b,(Zv _),al,rfl,rfl,a⟩;rintro c n ⟨_,_,_,_,_,_,_,_,_,_,a⟩;rw [qdx] at a;cases a;intro ad;rintro _ _ ⟨k,m,p,i,ae,b,q,x,y,o,a⟩;rw [qdx] at a;obtain ⟨am,an⟩:∃ f,f=qdx d ad:=⟨_,rfl⟩;rw [← an] at a;refine Qt<|Qy<|Zj o<|Qa (Vl Qu rfl)<|Qa (V5 rfl rfl)<|Qj ?_;refine Q6 a rfl (fun a5 a=>?_) fun a5 a=>?_;refine Qk<|Qe<|Qs<|Qt<|Uc Z2 Gh b<|Yo (Qd _ o) ?_;obtain ⟨e,a6,a⟩:=Qb a;refine Yo (Jt Qu rfl rfl a6)<|Yo (Ve ⟨_,Zc⟩ Zd rfl)<|Yo (q21 rfl rfl)<|Yo (Qd _ o) ?_;obtain ⟨g,a7,a⟩:=Qb a;refine Yo (Jt Qu rfl rfl a7)<|Yo (Ve ⟨_,Zc⟩ Zd rfl)<|Yo (Zu rfl rfl)<|Yo (Qf (Gi (Gr ((Gr (256*(Gr e)))+(Gr g)))) rfl)<|Ur ?_;intro _ b;refine Qe ?_;refine Qp (fun c n=>∃ z,Gl w k z∧Gm w z [.row m 9 1] n∧c 0= .string d∧c 4=m∧c 5= .string i∧c 6=Gi (Gr ((Gr (256*(Gr e)))+(Gr g)))∧qov p i am e g=some r) ?_ ?_;refine Qp (fun c n=>∃ s af,Gl w k s∧Gm w s [.row m 9 1] n∧c 0= .string d∧c 4=m∧c 5= .string i∧c 6=Gi (Gr ((Gr (256*(Gr e)))+(Gr g)))∧c 31= .bool af∧qep d p i am e g af=some r) ?_ ?_;refine Q1<|Qa (Qd (Gi (Gr ((Gr (256*(Gr e)))+(Gr g)))) rfl)<|Qa (Ya rfl rfl)<|Qa (Qd (.bool ((Gr ((Gr (256*(Gr e)))+(Gr g)))==0)) rfl) ?_;rcases ic a with ⟨ao,a⟩ | ⟨ao,a⟩<;>rw [ao];refine Qw 10 rfl<|Qj ?_;exact ⟨k,true,(Qc _ _ _),b,x,y,o,rfl,rfl,a⟩;refine Qg rfl rfl (Qd (Gi (Gr ((Gr (256*(Gr e)))+(Gr g)))) rfl)<|Qg rfl rfl (Y3 rfl rfl)<|Qw 2 rfl ?_;rcases ic a with ⟨ap,a⟩ | ⟨ap,a⟩<;>rw [ap];refine Qw 6 rfl<|Qj ?_;exact ⟨k,true,(Qc _ _ _),b,x,y,o,rfl,rfl,a⟩;refine Qg rfl rfl (Qd _ o)<|Qg rfl rfl (Vl Qu rfl)<|Qg rfl rfl (Qd (Gi (Gr ((Gr (256*(Gr e)))+(Gr g)))) rfl)<|Qg rfl rfl (Zu rfl rfl)<|Qg rfl rfl (Zt rfl rfl)<|Qa (Q7 (.bool (decide ((i.size:Int)<(Gr (2+(Gr ((Gr (256*(Gr e)))+(Gr g)))))))) rfl rfl)<|Qj ?_;exact ⟨k,(decide ((i.size:Int)<(Gr (2+(Gr ((Gr (256*(Gr e)))+(Gr g))))))),(Qc _ _ _),b,x,y,o,rfl,rfl,a⟩;rintro _ _ ⟨s,af,ag,b,aq,ar,au,a8,a9,a⟩;replace q:=Qo ag.1 q;rw [qep] at a;refine Q6 a a9 (fun ba a=>?_) fun ba a=>?_;refine Zp<|Qr<|q43 rfl<|Qr<|Zq<|Qe ?_;exact ⟨s,m,p,i,(ae.trans ag),b,q,aq,ar,au,a⟩;refine Qk<|Qe ?_;exact ⟨s,ag,b,aq,ar,au,a8,a⟩;rintro _ _ ⟨z,av,b,bb,bc,aw,ax,a⟩;rw [qov] at a;refine Qy<|Zj bc<|Zj aw<|Zj ax<|Qa (Zu rfl rfl) ?_;obtain ⟨aa,ah,a⟩:=Qb a;obtain ⟨⟨_,_⟩,bd,ah⟩:=Ar.1 ah;refine Qa ((ah ▸ Un (l:=(some 2)) (h:=(some (Gr (2+(Gr ((Gr (256*(Gr e)))+(Gr g))))))) Qu rfl (evs rfl) (evs rfl) bd)) ?_;obtain ⟨_,ai,a⟩:=Qb a;have ai:=Kk ai;refine Ql (Z1 (α := ByteArray) (l:=([aa]:List ByteArray)) [.string aa] zhb (Y5 rfl Vq) rfl rfl Gg Gg Gg b (Jq (V2 ai:rep z [Value.string aa] aa) J1) ?_);intro _ _ _ ay be b;replace q:=Qo (av.1.trans ay.1) q;obtain ⟨bg,bh,bi,a⟩:=Z5 a;refine Ql (Yv (α := ByteArray) (j:=0) zaz b rfl rfl rfl q be bh ?_);intro az bj _ bk a0 b;rw [← bi] at a0;refine Qa (Qf (az) rfl)<|Qj<|Q1<|Zj aw<|Zj ax<|Qa (Zu rfl rfl) ?_;obtain ⟨a1,aj,a⟩:=Qb a;obtain ⟨⟨_,_⟩,bl,aj⟩:=Ar.1 aj;refine Qa ((aj ▸ Un (l:=(some (Gr (2+(Gr ((Gr (256*(Gr e)))+(Gr g))))))) (h:=none) Qu rfl (evs rfl) evn bl))<|Qa (Qf (.string a1) rfl)<|Yn<|Q8<|Qe ?_;exact ⟨bj,az,bg,a1,(ae.trans (av.trans (ay.trans bk))),b,a0,bb,rfl,rfl,(by rw [← an];exact a)⟩;refine Zp<|Qr<|Qr<|Zq<|Qe ?_;exact ⟨k,m,p,i,ae,b,q,x,y,o,a⟩;rintro _ _ ⟨t,v,l6,s8,bm,b,bn,bo,bp,bq,a⟩;rw [qi1] at a;refine Qy<|Zj bp<|Zj bo<|Qa (Vl Qu rfl)<|Zj bq<|Qa (Vl Qu rfl)<|Qa (Jh rfl rfl)<|Qw 2 rfl<|Qj ?_;cases a;exact Q2 (Uo rfl rfl rfl (Ze b bm ⟨_,rfl,bn⟩))
def qow (a:ByteArray) (b:Int) (c:ByteArray × Int):Option ByteArray:=(qs7 c.1 none (some (Gr ((a.size:Int)+b)))).bind fun d=>some d
def qhb (x1:ByteArray) (x3:Int) (r6:ByteArray × Int) (c23:Bool):Option ByteArray:=(bif c23 then some r6.1 else qow x1 x3 r6)
def qhc (x1:ByteArray) (x3:Int) (r6:ByteArray × Int) (c17:Bool):Option ByteArray:=(bif c17 then some x1 else (bif decide (x3>402) then qhb x1 x3 r6 true else qhb x1 x3 r6 (decide ((Gr ((x1.size:Int)+x3))>(r6.1.size:Int)))))
def qr5 (fu:Nat) (a:ByteArray) (d:ByteArray) (b:Int):Option ByteArray:=(qlb fu a d).bind fun c=>(bif c.2 != 0 then qhc a b c true else qhc a b c (decide (b≤0)))
theorem q7h {d:ByteArray} {j:ByteArray} {e:Int} {r:ByteArray} (hA:Agree M w)  (a:qr5 fu d j e=some r) :
    Calls Tryz.prog 54 #[.string d,.string j,Gi e] w (qav w (.string r)):=by
 refine Zk Tryz.func54 42 fun T o=>?_;have p:T 0= .string d:=o 0;have ad:T 1= .string j:=o 1;have q:T 2=Gi e:=o 2;have c:Gm w M [] w:=Zs hA;rw [qr5] at a;refine Qy<|Qa (Qf (.string (⟨#[]⟩:ByteArray)) rfl)<|Qj<|Qy<|Zj p<|Zj ad ?_;obtain ⟨b,ae,a⟩:=Qb a;refine Ql<|Zi (vs:=[.string d,.string j]) (v:= .tuple #[.string b.1,Gi b.2]) cb55 (Z4 rfl rfl) c (qwp c.agree ae) fun w4 c=>Qa (Qd (.tuple #[.string b.1,Gi b.2]) rfl)<|Qa (Q3 (v:= .string b.1) rfl rfl)<|Qa (Q3 (v:= Gi b.2) rfl rfl)<|Qw 2 rfl<|Qj ?_;refine Qp (fun f i=>∃ s,Gl w M s∧Gm w s [] i∧f 0= .string d∧f 2=Gi e∧f 7= .string b.1∧qow d e b=some r) ?_ ?_;refine Qs ?_;refine Qp (fun f i=>∃ g t,Gl w M g∧Gm w g [] i∧f 0= .string d∧f 2=Gi e∧f 7= .string b.1∧f 15= .bool t∧qhc d e b t=some r) ?_ ?_;refine Q1<|Qa (Qd (Gi b.2) rfl)<|Qa (Ym rfl rfl)<|Qa (Qd (.bool (b.2 != 0)) rfl) ?_;rcases ic a with ⟨z,a⟩ | ⟨z,a⟩<;>rw [z];refine Qw 4 rfl<|Qj ?_;exact ⟨M,true,(Qc _ _ _),c,p,q,rfl,rfl,a⟩;refine Qg rfl rfl (Qd _ q)<|Qg rfl rfl (q22 rfl rfl)<|Qw 2 rfl<|Qj ?_;exact ⟨M,(decide (e≤0)),(Qc _ _ _),c,p,q,rfl,rfl,a⟩;rintro _ _ ⟨g,t,af,c,k,m,u,ag,a⟩;rw [qhc] at a;refine Q6 a ag (fun ah a=>?_) fun ah a=>?_;refine Qy<|Zj k<|Qa (Qf (.string d) rfl)<|Qj ?_;cases a;exact Q2 (Yk rfl rfl ⟨rfl,c.kept⟩);refine Qp (fun f i=>∃ n x,Gl w g n∧Gm w n [] i∧f 0= .string d∧f 2=Gi e∧f 7= .string b.1∧f 23= .bool x∧qhb d e b x=some r) ?_ ?_;refine Q1<|Zj m<|Qa (Y3 rfl rfl)<|Qa (Qd (.bool (decide (e>402))) rfl) ?_;rcases ic a with ⟨aa,a⟩ | ⟨aa,a⟩<;>rw [aa];refine Qw 9 rfl<|Qj ?_;exact ⟨g,true,(Qc _ _ _),c,k,m,u,rfl,a⟩;refine Qg rfl rfl (Qd _ k)<|Qg rfl rfl (Vl Qu rfl)<|Qg rfl rfl (Qd _ m)<|Qg rfl rfl (Zu rfl rfl)<|Qg rfl rfl (Qd _ u)<|Qg rfl rfl (Vl Qu rfl)<|Qg rfl rfl (Y3 rfl rfl)<|Qw 2 rfl<|Qj ?_;exact ⟨g,(decide ((Gr ((d.size:Int)+e))>(b.1.size:Int))),(Qc _ _ _),c,k,m,u,rfl,a⟩;rintro _ _ ⟨n,x,ai,c,aj,ak,ab,al,a⟩;rw [qhb] at a;refine Q6 a al (fun am a=>?_) fun am a=>?_;refine Qy<|Zj ab<|Qa (Qf (.string b.1) rfl)<|Qj ?_;cases a;exact Q2 (Yk rfl rfl ⟨rfl,c.kept⟩);refine Qk<|Q8<|Qe ?_;exact ⟨n,(af.trans ai),c,aj,ak,ab,a⟩;rintro _ _ ⟨s,_,c,an,ao,ap,a⟩;rw [qow] at a;refine Qy<|Zj ap<|Zj an<|Qa (Vl Qu rfl)<|Zj ao<|Qa (Zu rfl rfl) ?_;obtain ⟨aq,y,a⟩:=Qb a;obtain ⟨⟨_,_⟩,ar,y⟩:=Ar.1 y;refine Qa ((y ▸ Un (l:=none) (h:=(some (Gr ((d.size:Int)+e)))) Qu rfl evn (evs rfl) ar))<|Qa (Qf (.string aq) rfl)<|Qj ?_;cases a;exact Q2 (Yk rfl rfl ⟨rfl,c.kept⟩)
def qs3 (fu:Nat) (a:Int):Option GReply:=(some ({ code:=a,n:=Zr.zd,values:=Zr.zd }:GReply)).bind fun b=>(some b).bind fun c=>some c
theorem qjx {a:Int} {r:GReply} (g:Agree M w)  (b:qs3 fu a=some r) :
    Calls Tryz.prog 18 #[Gi a] w (Gives M w (fun h u=>∃ cs,u=Gj cs∧rep h cs r)):=by
 refine Zk Tryz.func18 5 fun T i=>?_;have k:T 0=Gi a:=i 0;have c:Gm w M [] w:=Zs g;rw [qs3] at b;refine Qy ?_;refine Ql (Zl za0 c ?_);intro _ _ _ c;have d:rep M (Zr.zc GReply) (Zr.zd:GReply):=Zr.zr;refine Qj<|Qy<|Zj k ?_;have l:=Ji (Zr.zr:rep M (Zr.zc GReply) (Zr.zd:GReply)) (ri a:rep M _ _);obtain ⟨m,o,b⟩:=Qb b;obtain ⟨_,p,e⟩:∃ cs,qa1 (([(0,1),(1,1),(2,1)]:List (Nat × Nat))[·]?) (Zr.zc GReply) [(0,Gi a)]=some cs∧rep M cs m:=⟨_,(Zg (Zr.zr:rep M (Zr.zc GReply) (Zr.zd:GReply)) rfl rfl (X5 (ri a:rep M _ _)) Gg Yd),Ye (x:=({ code:=a,n:=Zr.zd,values:=Zr.zd }:GReply)) l o⟩;refine Qa (Z0 [(0,Gi a)] Up (Y5 rfl Vq) p) ?_;obtain ⟨_,q,b⟩:=Qb b;refine Ql (Z7 0 3 c d e (Lf (rr d) e) q ?_);intro _ _ f _ _ c;refine Qj ?_;cases b;exact Q2 (J6 (j:=0) rfl rfl (V1 K0 f) c rfl (Ze c (Qc _ _ _) ⟨_,rfl,f⟩))
def qn3 (y19:Int) (rec20:GRefCluster→(List GCase)→Int→Option (GRefCluster × (List GCase))) (d29:GRefCluster) (l32:List GCase):Option (GRefCluster × (List GCase)) := rec20 d29 l32 (Gr (y19+1))
def qe4 (fu:Nat) (b:List GFrame):Nat→GRefCluster→(List GCase)→Int→Option (GRefCluster × (List GCase))
 | 0,_,_,_=>none
 | n+1,a,d,c=>(bif decide (c<(b.length:Int)) then (idx b c).bind fun f=>(some f).bind fun g=>(qdd fu g).bind fun e=>(bif decide ((a.net.length:Int)<60) then (q29 e.1).bind fun _=>(app a.net ([e.1]:List ByteArray)).bind fun h=>(some ({ a with net:=h }:GRefCluster)).bind fun i=>qn3 c (qe4 fu b n) i d else qn3 c (qe4 fu b n) a d) else some (a,d))
def qqd (fu:Nat) (x1:GRefCluster) (l3:List GCase) (x5:List GFrame):Option (GRefCluster × (List GCase)) := qe4 fu x5 fu x1 l3 0
theorem qr6 {c:Nat} {d:Gq} {g:Value} {k:Gq} {m:Value} {ac:Value} {x:GRefCluster} {l3:List GCase} {y:List GFrame} {r:GRefCluster × (List GCase)} (b:St w (qah [Gp c d 45,.stk g 62 24 k,.row m 9 1]) M [Gp c d 45,.stk g 62 24 k,.row m 9 1] w) (be:rep M d x) (bg:skr M g k l3) (bh:sl d 1224 1=[g]) (bi:sl d 1225 1=[m]) (ah:repL M ac y) (a:qqd fu x l3 y=some r) :
    Calls Tryz.prog 20 #[Gk c,ac] w (qcm M w [Gp c d 45,.stk g 62 24 k,.row m 9 1] (fun M' u L'=>∃ k0 u1 x u2,u= .tuple #[]∧L'=[Gp c k0 45,.stk u1 62 24 x,.row u2 9 1]∧rep M' k0 r.1∧skr M' u1 x r.2∧sl k0 1224 1=[u1]∧sl k0 1225 1=[u2])):=by
 refine Zk Tryz.func20 36 fun T hT=>?_;have bk:T 0=Gk c:=hT 0;have bl:T 1=ac:=hT 1;rw [qqd] at a;refine Qy<|Zj bl ?_;obtain ⟨_,_,bm,_⟩:=Q0 ah;refine Qa (Zo Tryz.underlying67 (Vz bm rfl))<|Qa (Qd (Gi 0) rfl)<|Qj<|Qs ?_;refine Zy (fun ax h w'=>∃ i o ak p s ad q t,Mm.ext w.heap.size (qah [Gp c d 45,.stk g 62 24 k,.row m 9 1]) M i∧St w (qah [Gp c d 45,.stk g 62 24 k,.row m 9 1]) i [Gp c o 45,.stk p 62 24 s,.row q 9 1] w'∧rep i o ak∧skr i p s ad∧sl o (0+1224) 1=[p]∧sl o (0+1225) 1=[q]∧h 0=Gk c∧h 8=ac∧h 9=Gi (y.length:Int)∧h 10=Gi t∧qe4 fu y ax ak ad t=some r) fu ?_ ?_ ?_;exact ⟨M,d,x,g,k,l3,m,(0:Int),(Qc _ _ _),b,be,bg,bh,bi,bk,rfl,rfl,rfl,a⟩;rintro h w' ⟨_,_,_,_,_,_,_,_,_,_,_,_,_,_,_,_,_,_,a⟩;rw [qe4] at a;cases a;intro ax;rintro _ _ ⟨i,o,ak,p,s,ad,q,t,ay,b,n,ae,az,z,af,a0,a1,al,a⟩;replace ah:=Qo ay.1 ah;rw [qe4] at a;obtain ⟨bn,a9⟩:∃ f,f=qe4 fu y ax:=⟨_,rfl⟩;rw [← a9] at a;refine Qy<|Qa (Zt al a1)<|Qj<|Qt ?_;refine Q6 a rfl (fun bo a=>?_) fun bo a=>?_;refine Qk<|Qe ?_;refine Qp (fun h w'=>∃ aa ab am ag an ao ap,Mm.ext w.heap.size (qah [Gp c d 45,.stk g 62 24 k,.row m 9 1]) i aa∧St w (qah [Gp c d 45,.stk g 62 24 k,.row m 9 1]) aa [Gp c ab 45,.stk ag 62 24 an,.row ap 9 1] w'∧rep aa ab am∧skr aa ag an ao∧sl ab (0+1224) 1=[ag]∧sl ab (0+1225) 1=[ap]∧h 0=Gk c∧h 8=ac∧h 9=Gi (y.length:Int)∧h 10=Gi t∧qn3 t bn am ao=some r) ?_ ?_;refine Qs<|Qy ?_;obtain ⟨_,_,_,_,_,bp,bq,br,bs,bu,a⟩:=Yc 7 ah a;refine Qa (Yr il67 a0 bp al bq br) ?_;have a2:=bu;refine Qa (Za Jl rfl (b.bvM bs) (X5 a2)) ?_;refine Ql (Zl q7l b ?_);intro _ _ ba b;have bb:rep i (Zr.zc GFrame) (Zr.zd:GFrame):=Zr.zr;obtain ⟨_,bv,a⟩:=Qb a;refine Ql (Z7 0 7 b bb a2 (Lf (rr bb) a2) bv ?_);intro bw _ bx _ _ b;refine Qj<|Qy ?_;have bc:=(rr bx);refine Qa (Za Jl rfl (b.bvB 0 rfl) (X5 bc)) ?_;obtain ⟨e,bz,a⟩:=Qb a;refine Ql<|Zi (vs:=[Gj (sl bw (0) 7)]) (v:= .tuple #[.string e.1,Gi e.2]) cb44 (Zm rfl) b (qw6 b.agree bc bz) fun c7 b=>Qa (Qd (.tuple #[.string e.1,Gi e.2]) rfl)<|Qa (Q3 (v:= .string e.1) rfl rfl)<|Qa (Q3 (v:= Gi e.2) rfl rfl)<|Qw 2 rfl<|Qj<|Qy<|Zj af<|Qa (Q9 rfl)<|Qa (Qi Ux rfl) ?_;obtain ⟨_,b0,bd⟩:=(Vv (rr n));rw [Y6 b0 z] at bd;refine Qa (Qh q X3 rfl (b.bvB 1 rfl) z) ?_;obtain ⟨_,_,b1,_⟩:=Q0 bd;refine Qa (Zo Y4 (Vz b1 rfl))<|Qa (Zt rfl rfl)<|Qj ?_;refine Q6 a rfl (fun b2 a=>?_) fun b2 a=>?_;refine Q1<|Zj af<|Zj af<|Qa (Q9 rfl)<|Qa (Qi Ux rfl) ?_;obtain ⟨_,b3,aq⟩:=(Vv (rr n));rw [Y6 b3 z] at aq;refine Qa (Qh q X3 rfl (b.bvB 1 rfl) z)<|Qa (Qd (.string e.1) rfl) ?_;obtain ⟨_,a3,a⟩:=Qb a;have a3:=Kk a3;refine Ql (Z1 (α := ByteArray) (l:=([e.1]:List ByteArray)) [.string e.1] zhb (Y5 rfl Vq) rfl rfl Gg Gg Gg b (Jq (V2 a3:rep i [Value.string e.1] e.1) J1) ?_);intro _ _ _ ar b4 b;replace aq:=Qo ar.1 aq;obtain ⟨_,b5,b6,a⟩:=Z5 a;refine Ql (Yv (α := ByteArray) (j:=3) zaz b rfl rfl rfl aq b4 b5 ?_);intro b7 b8 _ a4 au b;rw [← b6] at au;replace n:=Zf (ar.trans a4) n;replace ae:=Zh (ar.1.trans a4.1) ae;refine Qa (Q9 rfl)<|Qa (Qi Ux rfl) ?_;obtain ⟨b9,ca,a⟩:=Qb a;refine Ql (Z3 1 1 b rfl n rfl rfl (Qq au) (Q4 au) rfl (GRefCluster.u5 (rr n) (Lf (Vv (rr n)) (Qq au))) ca ?_);intro cb _ cc cd ce b;have cf:=(cd Gf).trans az;have cg:=ce;refine Yn<|Q8<|Qe ?_;exact ⟨b8,cb,b9,p,s,ad,b7,(ar.trans a4),(Y0 b ba),cc,ae,cf,cg,af,a0,a1,al,a⟩;refine Qk<|Q8<|Qe ?_;exact ⟨i,o,ak,p,s,ad,q,(Qc _ _ _),(Y0 b ba),n,ae,az,z,af,a0,a1,al,a⟩;rintro _ _ ⟨aa,ab,am,ag,an,ao,ap,ch,b,ci,cj,ck,cl,cm,cn,co,cp,a⟩;rw [qn3] at a;refine Q1<|Qa (Zu cp rfl)<|Qa (Qd (Gi (Gr (t+1))) rfl)<|Qj ?_;exact ⟨aa,ab,am,ag,an,ao,ap,(Gr (t+1)),(ay.trans ch),b,ci,cj,ck,cl,cm,cn,co,rfl,(by rw [← a9];exact a)⟩;refine Zp<|Qr<|Qr<|Zq ?_;cases a;exact (Xi (zed rfl  ⟨_,i,_,rfl,ay,(b.sel (H':=[Gp c o 45,.stk p 62 24 s,.row q 9 1]) [0,1,2] Gg rfl),o,p,s,q,rfl,rfl,n,ae,az,z⟩))
def qs4 (fu:Nat) (b:GRefCluster) (e:List GCase) (a:Int):Option (GRefCluster × (List GCase)):=(some ({ entries:=Zr.zd,order:=Zr.zd,values:=Zr.zd }:GNode)).bind fun f=>(inR a 6).bind fun _=>(qam b.nodes a).bind fun k=>(qdc b.nodes a f).bind fun g=>(some ({ b with nodes:=g }:GRefCluster)).bind fun c=>(inR a 6).bind fun _=>(qam c.down a).bind fun l=>(qdc c.down a true).bind fun h=>(some ({ c with down:=h }:GRefCluster)).bind fun d=>(inR a 6).bind fun _=>(qam d.tear a).bind fun m=>(qdc d.tear a 0).bind fun i=>(some ({ d with tear:=i }:GRefCluster)).bind fun j=>some (j,e)
theorem q2u {d:Nat} {f:Gq} {e:Value} {g:Gq} {h:Value} {i:GRefCluster} {v:List GCase} {o:Int} {r:GRefCluster × (List GCase)} (c:St w (qah [Gp d f 45,.stk e 62 24 g,.row h 9 1]) M [Gp d f 45,.stk e 62 24 g,.row h 9 1] w) (j:rep M f i) (aj:skr M e g v) (ak:sl f 1224 1=[e]) (al:sl f 1225 1=[h]) (a:qs4 fu i v o=some r) :
    Calls Tryz.prog 23 #[Gk d,Gi o] w (qcm M w [Gp d f 45,.stk e 62 24 g,.row h 9 1] (fun y u L'=>∃ l p i z,u= .tuple #[]∧L'=[Gp d l 45,.stk p 62 24 i,.row z 9 1]∧rep y l r.1∧skr y p i r.2∧sl l 1224 1=[p]∧sl l 1225 1=[z])):=by
 refine Zk Tryz.func23 20 fun T hT=>?_;have q:T 0=Gk d:=hT 0;have s:T 1=Gi o:=hT 1;rw [qs4] at a;refine Yp [] [] Z2 c fun w6 c t b=>Qv 0 rfl (Qd _ q) b<|Qv 1 rfl (Qd _ s) b<|Qv 2 rfl (Qd _ q) b<|Qv 3 rfl (Qd _ s) b<|Qv 4 rfl (Qd _ q) b<|Qv 5 rfl (Qd _ s) b ?_;obtain ⟨an,ao,a⟩:=Qb a;obtain ⟨_,ap,ab⟩:∃ cs,qa1 (([(0,192),(192,1),(193,8)]:List (Nat × Nat))[·]?) (Zr.zc GNode) []=some cs∧rep M cs an:=⟨_,Yd,Ye (x:=({ entries:=Zr.zd,order:=Zr.zd,values:=Zr.zd }:GNode)) (Zr.zr:rep M (Zr.zc GNode) (Zr.zd:GNode)) ao⟩;refine Qv 6 rfl (Z0 [] zb4 Vq ap) b<|Qv 7 rfl (Q9 rfl) b<|Qv 8 rfl (Qi q02 rfl) b ?_;obtain ⟨aq,ar,a⟩:=Qm a;refine Qv 9 rfl (Zb q8f rfl rfl aq ar) b<|Qv 11 rfl (Q9 rfl) b<|Qv 12 rfl (Qi q03 rfl) b<|Qv 15 rfl (Q9 rfl) b<|Qv 16 rfl (Qi q46 rfl) b ?_;obtain ⟨_,ac,a⟩:=Qb a;obtain ⟨_,au,a⟩:=Qb a;obtain ⟨_,av,a⟩:=Qb a;have bj:=(Zw ac);refine w1 10 rfl (Z7 0 201 c j ab (Uy (rr j) (vu (k:=201) rfl rfl (V7 (rr j)) (Lf (vp (k:=201) rfl rfl (V7 (rr j)) ac) ab) au)) av ?_);intro _ _ m ad _ c;have aw:=(ad Gf).trans ak;have ax:=(ad Gf).trans al;refine Yj c t fun ay=>?_;obtain ⟨az,a0,a⟩:=Qm a;refine Qv 13 rfl (Zb J7 rfl rfl az a0) ay ?_;obtain ⟨_,ae,a⟩:=Qb a;obtain ⟨_,a1,a⟩:=Qb a;obtain ⟨_,a2,a⟩:=Qb a;have bq:=(Zw ae);refine w1 14 rfl (Z7 0 1 c m (rb true:rep M _ _) (GRefCluster.u2 (rr m) (vu (k:=1) rfl rfl (Kl (rr m)) (Lf (vp (k:=1) rfl rfl (Kl (rr m)) ae) (rb true:rep M _ _)) a1)) a2 ?_);intro _ _ n af _ c;have a3:=(af Gf).trans aw;have a4:=(af Gf).trans ax;refine Yj c t fun a5=>?_;obtain ⟨a6,a7,a⟩:=Qm a;refine Qv 17 rfl (Zb zay rfl rfl a6 a7) a5 ?_;obtain ⟨_,ag,a⟩:=Qb a;obtain ⟨_,a8,a⟩:=Qb a;obtain ⟨_,a9,a⟩:=Qb a;have bz:=(Zw ag);refine w1 18 rfl (Z7 0 1 c n (ri 0:rep M _ _) (GRefCluster.u3 (rr n) (vu (k:=1) rfl rfl (K6 (rr n)) (Lf (vp (k:=1) rfl rfl (K6 (rr n)) ag) (ri 0:rep M _ _)) a8)) a9 ?_);intro ah _ ba ai _ c;have bb:=(ai Gf).trans a3;have bc:=(ai Gf).trans a4;refine Yj c t fun b2=>?_;cases a;exact wd (Xi (zed rfl  ⟨_,M,_,rfl,(Qc _ _ _),(c.sel (H':=[Gp d ah 45,.stk e 62 24 g,.row h 9 1]) [0,1,2] Gg rfl),ah,e,g,h,rfl,rfl,ba,aj,bb,bc⟩))
def ql5 (fu:Nat) (b:GRefCluster) (c:List GCase) (a:GFrame) (f:ByteArray) (k:GNode) (l:List GFrame) (g:Int):Option (Int × GRefCluster × (List GCase)):=(bif g != 0 then some (g,b,c) else (inR a.node 6).bind fun _=>(qam b.tear a.node).bind fun m=>(bif decide (m>0) then (inR a.node 6).bind fun _=>(qam b.logs a.node).bind fun n=>(inR a.node 6).bind fun _=>(qam b.tear a.node).bind fun o=>(qr5 fu n f (Gr (o-1))).bind fun h=>(inR a.node 6).bind fun _=>(q29 h).bind fun _=>(qam b.logs a.node).bind fun v=>(qdc b.logs a.node h).bind fun p=>(some ({ b with logs:=p }:GRefCluster)).bind fun q=>(qs4 fu q c a.node).bind fun i=>some (6,i.1,i.2) else (inR a.node 6).bind fun _=>(qam b.logs a.node).bind fun r=>(qlb fu r f).bind fun d=>(bif d.2 != 0 then some (d.2,b,c) else (inR a.node 6).bind fun _=>(q29 d.1).bind fun _=>(qam b.logs a.node).bind fun w=>(qdc b.logs a.node d.1).bind fun s=>(some ({ b with logs:=s }:GRefCluster)).bind fun e=>(inR a.node 6).bind fun _=>(qam e.nodes a.node).bind fun x=>(qdc e.nodes a.node k).bind fun t=>(some ({ e with nodes:=t }:GRefCluster)).bind fun u=>(qqd fu u c l).bind fun j=>some (0,j.1,j.2))))
def qn4 (fu:Nat) (b:GRefCluster) (d:List GCase) (a:GFrame) (e:ByteArray):Option (Int × GRefCluster × (List GCase)):=(inR a.node 6).bind fun _=>(qam b.down a.node).bind fun f=>(bif f then some (6,b,d) else (inR a.node 6).bind fun _=>(qam b.nodes a.node).bind fun g=>(qiy fu g a.node a).bind fun c=>(some c.1).bind fun h=>ql5 fu b d a e h c.2.1 c.2.2)
theorem q4q {c:Nat} {d:Gq} {g:Value} {l:Gq} {m:Value} {t:Gq} {q:GRefCluster} {l3:List GCase} {n:GFrame} {x6:ByteArray} {r:Int × GRefCluster × (List GCase)} (b:St w (qah [Gp c d 45,.stk g 62 24 l,.row m 9 1]) M [Gp c d 45,.stk g 62 24 l,.row m 9 1] w) (e:rep M d q) (ah:skr M g l l3) (ao:sl d 1224 1=[g]) (ap:sl d 1225 1=[m]) (bn:rep M t n) (a:qn4 fu q l3 n x6=some r) :
    Calls Tryz.prog 27 #[Gk c,Gj t,.string x6] w (qcm M w [Gp c d 45,.stk g 62 24 l,.row m 9 1] (fun o u L'=>∃ p x q u2,u=Gi r.1∧L'=[Gp c p 45,.stk x 62 24 q,.row u2 9 1]∧rep o p r.2.1∧skr o x q r.2.2∧sl p 1224 1=[x]∧sl p 1225 1=[u2])):=by
 refine Zk Tryz.func27 95 fun T hT=>?_;have ay:T 0=Gk c:=hT 0;have cj:T 1=Gj t:=hT 1;have bo:T 2= .string x6:=hT 2;rw [qn4] at a;refine Qy ?_;refine Ql<|Yq (v:= Gj t) (cs:=t) cj rfl b fun b8 w7 ew b=>Qa (Qf (Gi 0) rfl)<|Qj<|Qy<|Qa (Qi Kv rfl)<|Qa (Qh (Gi n.node) Z8 rfl (b.bvB 0 rfl) (Vb (rr bn)))<|Qa (Qf (Gi n.node) rfl)<|Qj<|Qt<|Qy<|Zj ay<|Qa (Qd (Gi n.node) rfl)<|Qa (Q9 rfl)<|Qa (Qi q03 rfl) ?_;obtain ⟨ck,cl,a⟩:=Qm a;refine Qa (Zb J7 rfl rfl ck cl) ?_;obtain ⟨cm,cn,a⟩:=Qb a;refine Qa (Qh (.bool cm) Jf rfl (b.bvB 1 rfl) (vp (k:=1) rfl rfl (Kl (rr e)) cn))<|Qj ?_;refine Q6 a rfl (fun co a=>?_) fun co a=>?_;refine Qy<|Qa (Qf (Gi 6) rfl)<|Qj ?_;cases a;exact Q2 (Yk rfl rfl ⟨_,M,_,rfl,(Qc _ _ _),(b.sel (H':=[Gp c d 45,.stk g 62 24 l,.row m 9 1]) [1,2,3] Gg rfl),d,g,l,m,rfl,rfl,e,ah,ao,ap⟩);refine Qk<|Qe ?_;refine Qp (fun T' w'=>∃ y ai al ba a0 bb a1,Mm.ext w.heap.size (qah [Gp c d 45,.stk g 62 24 l,.row m 9 1]) M y∧St w (qah [Gp c d 45,.stk g 62 24 l,.row m 9 1]) y [Gp ai al 37,Gp b8 t 82,Gp c d 45,.stk g 62 24 l,.row m 9 1] w'∧rep y al ba∧w.heap.size≤ai∧repL y a0 bb∧T' 8=Gk ai∧T' 0=Gk c∧T' 2= .string x6∧T' 7=Gi n.node∧T' 9=a0∧T' 10=Gi a1∧ql5 fu q l3 n x6 ba bb a1=some r) ?_ ?_;refine Yp [Gp b8 t 82,Gp c d 45] [] Z2 b fun ex b am ae=>Qv 0 rfl (Qd _ ay) ae<|Qv 1 rfl (Qd (Gi n.node) rfl) ae<|Qv 2 rfl (Q9 rfl) ae<|Qv 3 rfl (Qi q02 rfl) ae ?_;obtain ⟨cq,cr,a⟩:=Qm a;refine Qv 4 rfl (Zb q8f rfl rfl cq cr) ae ?_;obtain ⟨_,ct,a⟩:=Qb a;have bc:=(vp (k:=201) rfl rfl (V7 (rr e)) ct);refine Yx 5 rfl (Za Vh rfl (Yl 1 rfl) (X5 bc)) ae<|Qv 6 rfl (Qd (Gi n.node) rfl) ae ?_;have bd:=(rr bn);refine Yx 7 rfl (Za Jl rfl (Yl 0 rfl) (X5 bd)) ae ?_;obtain ⟨h,bp,a⟩:=Qb a;obtain ⟨bq,br,a⟩:=Qb a;refine Ue (i:=8) (j:=13) Gh rfl rfl (Yi (vs:=[Gj (sl d (0+0+Int.toNat n.node*201) 201),Gi n.node,Gj (sl t (0) 7)]) (rv:=(fun o u=>∃ c0 v1,u= .tuple #[Gj c0,v1,Gi h.2.2]∧rep o c0 h.1∧repL o v1 h.2.1)) ziy (Js rfl rfl rfl) b (qnk b.agree bc bd bp) ?_) (Zl Ut b ?_);intro cu a2 cv aa be b;obtain ⟨av,ab,bg,aw,bh⟩:=be;subst bg;refine Yj b (am.trans aa) fun a3=>Qv 9 rfl (Qd (.tuple #[Gj av,ab,Gi h.2.2]) rfl) a3<|Qv 10 rfl (Q3 (v:= Gj av) rfl rfl) a3<|Qv 11 rfl (Q3 (v:=ab) rfl rfl) a3<|Qv 12 rfl (Q3 (v:= Gi h.2.2) rfl rfl) a3 ?_;refine w1 13 rfl (Zl Ut b ?_);intro bi cw bj b;have aj:rep a2 (Zr.zc GNode) (Zr.zd:GNode):=Zr.zr;refine Yj b (am.trans aa) fun ez=>?_;refine w1 14 rfl (Z7 0 201 b aj aw (Lf (rr aj) aw) br ?_);intro bk cx bl cy c1 b;refine Yj b (am.trans aa) fun bs=>Qv 15 rfl (Qf (ab) rfl) bs<|Qv 16 rfl (Qf (Gi h.2.2) rfl) bs<|wd<|Qe ?_;exact ⟨a2,bi,bk,bq,ab,h.2.1,h.2.2,aa,b,bl,bj,bh,rfl,ay,bo,rfl,rfl,rfl,a⟩;intro bi cw bj b;have aj:rep M (Zr.zc GNode) (Zr.zd:GNode):=Zr.zr;refine Yj b am fun e0=>?_;refine w1 8 rfl (Yi (vs:=[Gj (sl d (0+0+Int.toNat n.node*201) 201),Gi n.node,Gj (sl t (0) 7)]) (rv:=(fun o u=>∃ c0 v1,u= .tuple #[Gj c0,v1,Gi h.2.2]∧rep o c0 h.1∧repL o v1 h.2.1)) ziy (Js rfl rfl rfl) b (qnk b.agree bc bd bp) ?_);intro cu a2 cv aa be b;obtain ⟨av,ab,bg,aw,bh⟩:=be;subst bg;replace aj:=Zf aa aj;refine Yj b (am.trans aa) fun a4=>Qv 9 rfl (Qd (.tuple #[Gj av,ab,Gi h.2.2]) rfl) a4<|Qv 10 rfl (Q3 (v:= Gj av) rfl rfl) a4<|Qv 11 rfl (Q3 (v:=ab) rfl rfl) a4<|Qv 12 rfl (Q3 (v:= Gi h.2.2) rfl rfl) a4 ?_;refine w1 14 rfl (Z7 0 201 b aj aw (Lf (rr aj) aw) br ?_);intro bk cx bl cy c1 b;refine Yj b (am.trans aa) fun bu=>Qv 15 rfl (Qf (ab) rfl) bu<|Qv 16 rfl (Qf (Gi h.2.2) rfl) bu<|wd<|Qe ?_;exact ⟨a2,bi,bk,bq,ab,h.2.1,h.2.2,aa,b,bl,bj,bh,rfl,ay,bo,rfl,rfl,rfl,a⟩;rintro _ _ ⟨y,ai,al,ba,a0,bb,a1,an,b,c2,_,c3,c4,ac,bv,af,c5,bw,a⟩;replace e:=Zf an e;replace ah:=Zh an.1 ah;rw [ql5] at a;refine Qt<|Qy<|Zj bw<|Qa (Ym rfl rfl)<|Qj ?_;refine Q6 a rfl (fun c6 a=>?_) fun c6 a=>?_;refine Qy<|Zj bw<|Qa (Qf (Gi a1) rfl)<|Qj ?_;cases a;exact Q2 (Yk rfl rfl ⟨_,y,_,rfl,an,(b.sel (H':=[Gp c d 45,.stk g 62 24 l,.row m 9 1]) [2,3,4] Gg rfl),d,g,l,m,rfl,rfl,e,ah,ao,ap⟩);refine Qk<|Qe<|Qt<|Qy<|Zj ac<|Zj af<|Qa (Q9 rfl)<|Qa (Qi q46 rfl) ?_;obtain ⟨c7,c8,a⟩:=Qm a;refine Qa (Zb zay rfl rfl c7 c8) ?_;obtain ⟨c9,da,a⟩:=Qb a;refine Qa (Qh (Gi c9) Z8 rfl (b.bvB 2 rfl) (vp (k:=1) rfl rfl (K6 (rr e)) da))<|Qa (Y3 rfl rfl)<|Qj ?_;refine Q6 a rfl (fun db a=>?_) fun db a=>?_;refine Qt<|Yp [Gp c d 45] [20] Z2 b fun e4 b dc f=>Qv 0 rfl (Qd _ ac) f<|Qv 1 rfl (Qd _ af) f<|Qv 2 rfl (Qd _ ac) f<|Qv 3 rfl (Qd _ af) f<|Qv 4 rfl (Q9 rfl) f<|Qv 5 rfl (Qi Xd rfl) f ?_;obtain ⟨dd,de,a⟩:=Qm a;refine Qv 6 rfl (Zb Xb rfl rfl dd de) f ?_;obtain ⟨bx,df,a⟩:=Qb a;refine Yx 7 rfl (Qh (.string bx) ts9 rfl (Yl 0 rfl) (vp (k:=1) rfl rfl (Vg (rr e)) df).1) f<|Qv 8 rfl (Qd _ bv) f<|Qv 9 rfl (Qd _ ac) f<|Qv 10 rfl (Qd _ af) f<|Qv 11 rfl (Q9 rfl) f<|Qv 12 rfl (Qi q46 rfl) f ?_;obtain ⟨dg,dh,a⟩:=Qm a;refine Qv 13 rfl (Zb zay rfl rfl dg dh) f ?_;obtain ⟨bz,di,a⟩:=Qb a;refine Yx 14 rfl (Qh (Gi bz) Z8 rfl (Yl 0 rfl) (vp (k:=1) rfl rfl (K6 (rr e)) di)) f<|Qv 15 rfl (Jh rfl rfl) f<|Qv 17 rfl (Q9 rfl) f<|Qv 18 rfl (Qi Xd rfl) f ?_;obtain ⟨ax,dj,a⟩:=Qb a;refine w1 16 rfl<|Zi (vs:=[.string bx,.string x6,Gi (Gr (bz-1))]) (v:= .string ax) cb54 (Js rfl rfl rfl) b (q7h b.agree dj) fun e5 b=>Yj b dc fun dk=>?_;obtain ⟨dl,dm,a⟩:=Qm a;refine Qv 19 rfl (Zb Xb rfl rfl dl dm) dk ?_;obtain ⟨_,a5,a⟩:=Qb a;have a5:=Kk a5;obtain ⟨_,b0,a⟩:=Qb a;obtain ⟨_,dn,a⟩:=Qb a;obtain ⟨_,dp,a⟩:=Qb a;have e9:=(Zw b0);refine w1 20 rfl (Z7 2 1 b e (V2 a5:rep y [Value.string ax] ax) (Uz (rr e) (vu (k:=1) rfl rfl (Vg (rr e)) (Lf (vp (k:=1) rfl rfl (Vg (rr e)) b0) (V2 a5:rep y [Value.string ax] ax)) dn)) dp ?_);intro dq _ dr b1 _ b;have ds:=(b1 Gf).trans ao;have dt:=(b1 Gf).trans ap;refine ⟨nB,?_⟩;refine wd<|Qe<|Qy<|Zj ac<|Zj af ?_;obtain ⟨b2,du,a⟩:=Qb a;refine Ql (Yg (vs:=[Gk c,Gi n.node]) (L:=[Gp c dq 45,.stk g 62 24 l,.row m 9 1]) (R:=[Gp ai al 37,Gp b8 t 82]) (rv:=(fun o u L'=>∃ p x q u2,u= .tuple #[]∧L'=[Gp c p 45,.stk x 62 24 q,.row u2 9 1]∧rep o p b2.1∧skr o x q b2.2∧sl p 1224 1=[x]∧sl p 1225 1=[u2])) cb23 (Z4 rfl rfl) b (b.sel [2,3,4,0,1] Gg rfl) (fun b=>q2u b dr ah ds dt du) ?_);rintro _ dv _ _ dw ⟨b3,b4,b5,b6,rfl,dx,dy,dz,d0,d1⟩ b;replace b:=b _ dx;refine Qj<|Qy<|Qa (Qf (Gi 6) rfl)<|Qj ?_;cases a;exact Q2 (Yk rfl rfl ⟨_,dv,_,rfl,(an.trans dw),(b.sel (H':=[Gp c b3 45,.stk b4 62 24 b5,.row b6 9 1]) [0,1,2] Gg rfl),b3,b4,b5,b6,rfl,rfl,dy,dz,d0,d1⟩);refine Qk<|Qe<|Qy<|Zj ac<|Zj af<|Qa (Q9 rfl)<|Qa (Qi Xd rfl) ?_;obtain ⟨d2,d3,a⟩:=Qm a;refine Qa (Zb Xb rfl rfl d2 d3) ?_;obtain ⟨b7,d4,a⟩:=Qb a;refine Qa (Qh (.string b7) ts9 rfl (b.bvB 2 rfl) (vp (k:=1) rfl rfl (Vg (rr e)) d4).1)<|Zj bv ?_;obtain ⟨s,d5,a⟩:=Qb a;refine Ql<|Zi (vs:=[.string b7,.string x6]) (v:= .tuple #[.string s.1,Gi s.2]) cb55 (Z4 rfl rfl) b (qwp b.agree d5) fun ff b=>Qa (Qd (.tuple #[.string s.1,Gi s.2]) rfl)<|Qa (Q3 (v:= .string s.1) rfl rfl)<|Qa (Q3 (v:= Gi s.2) rfl rfl)<|Qw 2 rfl<|Qj<|Qt<|Qy<|Qa (Qd (Gi s.2) rfl)<|Qa (Ym rfl rfl)<|Qj ?_;refine Q6 a rfl (fun d6 a=>?_) fun d6 a=>?_;refine Qy<|Qw 2 rfl<|Qj ?_;cases a;exact Q2 (Yk rfl rfl ⟨_,y,_,rfl,an,(b.sel (H':=[Gp c d 45,.stk g 62 24 l,.row m 9 1]) [2,3,4] Gg rfl),d,g,l,m,rfl,rfl,e,ah,ao,ap⟩);refine Qk<|Qe<|Qt<|Yp [Gp ai al 37] [] Z2 b fun fg b b9 z=>Qv 0 rfl (Qd _ ac) z<|Qv 1 rfl (Qd _ af) z<|Qv 2 rfl (Qd _ ac) z<|Qv 3 rfl (Qd _ af) z<|Qv 4 rfl (Qd (.string s.1) rfl) z ?_;have bm:=(rr c2);refine Yx 5 rfl (Za Vh c4 (Yl 0 rfl) (X5 bm)) z<|Qv 6 rfl (Q9 rfl) z<|Qv 7 rfl (Qi Xd rfl) z ?_;obtain ⟨d7,d8,a⟩:=Qm a;refine Qv 8 rfl (Zb Xb rfl rfl d7 d8) z<|Qv 10 rfl (Q9 rfl) z<|Qv 11 rfl (Qi q02 rfl) z ?_;obtain ⟨_,a6,a⟩:=Qb a;have a6:=Kk a6;obtain ⟨_,ca,a⟩:=Qb a;obtain ⟨_,d9,a⟩:=Qb a;obtain ⟨_,ea,a⟩:=Qb a;have fk:=(Zw ca);refine w1 9 rfl (Z7 2 1 b e (V2 a6:rep y [Value.string s.1] s.1) (Uz (rr e) (vu (k:=1) rfl rfl (Vg (rr e)) (Lf (vp (k:=1) rfl rfl (Vg (rr e)) ca) (V2 a6:rep y [Value.string s.1] s.1)) d9)) ea ?_);intro _ _ a7 cb _ b;have eb:=(cb Gf).trans ao;have ec:=(cb Gf).trans ap;refine Yj b b9 fun ed=>?_;obtain ⟨ee,ef,a⟩:=Qm a;refine Qv 12 rfl (Zb q8f rfl rfl ee ef) ed ?_;obtain ⟨_,cc,a⟩:=Qb a;obtain ⟨_,eg,a⟩:=Qb a;obtain ⟨_,eh,a⟩:=Qb a;have fr:=(Zw cc);refine w1 13 rfl (Z7 2 201 b a7 bm (Uy (rr a7) (vu (k:=201) rfl rfl (V7 (rr a7)) (Lf (vp (k:=201) rfl rfl (V7 (rr a7)) cc) bm) eg)) eh ?_);intro ei _ ej cd _ b;have ek:=(cd Gf).trans eb;have el:=(cd Gf).trans ec;refine Yj b b9 fun fv=>wd<|Qe<|Qy<|Zj ac<|Zj c5 ?_;obtain ⟨ce,em,a⟩:=Qb a;refine Ql (Yg (vs:=[Gk c,a0]) (L:=[Gp c ei 45,.stk g 62 24 l,.row m 9 1]) (R:=[Gp ai al 37,Gp b8 t 82]) (rv:=(fun o u L'=>∃ p x q u2,u= .tuple #[]∧L'=[Gp c p 45,.stk x 62 24 q,.row u2 9 1]∧rep o p ce.1∧skr o x q ce.2∧sl p 1224 1=[x]∧sl p 1225 1=[u2])) zhc (Z4 rfl rfl) b (b.sel [2,3,4,0,1] Gg rfl) (fun b=>qr6 b ej ah ek el c3 em) ?_);rintro _ en _ _ eo ⟨cf,cg,ch,ci,rfl,ep,er,es,et,eu⟩ b;replace b:=b _ ep;refine Qj<|Qy<|Qa (Qf (Gi 0) rfl)<|Qj ?_;cases a;exact Q2 (Yk rfl rfl ⟨_,en,_,rfl,(an.trans eo),(b.sel (H':=[Gp c cf 45,.stk cg 62 24 ch,.row ci 9 1]) [0,1,2] Gg rfl),cf,cg,ch,ci,rfl,rfl,er,es,et,eu⟩)
def q0i (fu:Nat) (a:GFrame) (c:GRefCluster) (b:List GCase) (d:GCase) (g:List GFrame) (e:Int):Option (GReply × GRefCluster × (List GCase)):=(bif e != 0 then (qs3 fu e).bind fun h=>(some h).bind fun i=>some (i,c,b) else (idx b a.id).bind fun o=>(some (List.set b (Int.toNat a.id) d)).bind fun j=>(qqd fu c j g).bind fun f=>(qkq fu d).bind fun k=>(some ({ code:=Zr.zd,n:=a.id,values:=k.1 }:GReply)).bind fun l=>(some l).bind fun m=>some (m,f.1,f.2))
def q0j (fu:Nat) (a:GFrame) (g:GReply) (d:GRefCluster) (c:List GCase):Option (GReply × GRefCluster × (List GCase)):=(idx c a.id).bind fun e=>(qjw fu e a.id a).bind fun b=>(some b.1).bind fun f=>q0i fu a d c f b.2.1 b.2.2
def qn5 (fu:Nat) (c:List GCase) (e:GReply) (f:ByteArray) (b:GFrame) (d:GRefCluster) (g:Bool):Option (GReply × GRefCluster × (List GCase)):=(bif g then (qn4 fu d c b f).bind fun a=>(bif a.1 != 0 then (qs3 fu a.1).bind fun h=>(some h).bind fun i=>some (i,a.2.1,a.2.2) else (some ({ code:=Zr.zd,n:=b.id,values:=Zr.zd }:GReply)).bind fun j=>(some j).bind fun k=>some (k,a.2.1,a.2.2)) else q0j fu b e d c)
def qs5 (fu:Nat) (f:GAct) (b:List GCase) (d:GReply) (e:ByteArray) (a:GFrame) (c:GRefCluster):Option (GReply × GRefCluster × (List GCase)):=(bif f.kind==4 then (some ({ code:=Zr.zd,n:=a.id,values:=Zr.zd }:GReply)).bind fun g=>(some g).bind fun h=>some (h,c,b) else (bif a.kind==1 then qn5 fu b d e a c true else qn5 fu b d e a c (a.kind==3)))
def qwq (fu:Nat) (a:GAct) (b:GRefCluster) (d:List GCase) (e:GReply):Option (GReply × GRefCluster × (List GCase)):=(idx b.net a.n).bind fun c=>(qfo fu c).bind fun g=>(some g.1).bind fun f=>(bif a.kind != 3 then (qxm b.net none (some a.n)).bind fun h=>(qxm b.net (some (Gr (a.n+1))) none).bind fun i=>(app ([]:List ByteArray) h).bind fun j=>(app j i).bind fun k=>(some ({ b with net:=k }:GRefCluster)).bind fun l=>qs5 fu a d e c f l else qs5 fu a d e c f b)
def qs6 (fu:Nat) (c:GAct) (d:GReply) (a:GRefCluster) (b:List GCase) (e:Bool):Option (GReply × GRefCluster × (List GCase)):=(bif e then (qs3 fu 4).bind fun f=>(some f).bind fun g=>some (g,a,b) else qwq fu c a b d)
def qwr (fu:Nat) (x5:GAct) (d27:GReply) (d29:GRefCluster) (l32:List GCase):Option (GReply × GRefCluster × (List GCase)):=(bif decide (x5.n<0) then qs6 fu x5 d27 d29 l32 true else qs6 fu x5 d27 d29 l32 (decide (x5.n≥(d29.net.length:Int))))
def q0k (fu:Nat) (b:List GCase) (c:GRefCluster) (e:GCase) (f:List GFrame) (d:Int):Option (GReply × GRefCluster × (List GCase)):=(bif d != 0 then (qs3 fu d).bind fun g=>(some g).bind fun h=>some (h,c,b) else (app b ([e]:List GCase)).bind fun i=>(some ({ c with cases:=Hole.mk }:GRefCluster)).bind fun j=>(qqd fu j i f).bind fun a=>(some ({ code:=Zr.zd,n:=Gr ((a.2.length:Int)-1),values:=Zr.zd }:GReply)).bind fun k=>(some k).bind fun l=>some (l,a.1,a.2))
def q0l (fu:Nat) (c:List GCase) (a:GAct) (d:GRefCluster) (k:GReply):Option (GReply × GRefCluster × (List GCase)):=(idx c a.n).bind fun e=>(qgs fu e a.n).bind fun f=>(qqd fu d c f).bind fun b=>(idx b.2 a.n).bind fun g=>(qkq fu g).bind fun h=>(some ({ code:=Zr.zd,n:=a.n,values:=h.1 }:GReply)).bind fun i=>(some i).bind fun j=>some (j,b.1,b.2)
def qr7 (fu:Nat) (a:List GCase) (c:GAct) (b:GRefCluster) (d:Bool):Option (GReply × GRefCluster × (List GCase)):=(bif d then (qs3 fu 4).bind fun e=>(some e).bind fun f=>some (f,b,a) else q0l fu a c b (Zr.zd:GReply))
def ql6 (fu:Nat) (a:GRefCluster) (b:List GCase):Option (GReply × GRefCluster × (List GCase)):=(qs3 fu 0).bind fun c=>(some c).bind fun d=>some (d,a,b)
def qr8 (fu:Nat) (c:List GCase) (a:GAct) (b:GRefCluster) (w:GReply):Option (GReply × GRefCluster × (List GCase)):=(inR a.n 6).bind fun _=>(qam b.down a.n).bind fun i=>(bif !(i==(a.kind==8)) then (qs3 fu 6).bind fun j=>(some j).bind fun k=>some (k,b,c) else (bif a.kind==6 then (qs4 fu b c a.n).bind fun f=>ql6 fu f.1 f.2 else (bif a.kind==7 then (inR a.n 6).bind fun _=>(qam b.tear a.n).bind fun x=>(qdc b.tear a.n (Gr (a.m+1))).bind fun l=>(some ({ b with tear:=l }:GRefCluster)).bind fun o=>ql6 fu o c else (bif a.kind==8 then (inR a.n 6).bind fun _=>(qam b.logs a.n).bind fun p=>(qr4 fu p).bind fun g=>(inR a.n 6).bind fun _=>(qam b.logs a.n).bind fun q=>(qs7 q none (some g.2)).bind fun h=>(inR a.n 6).bind fun _=>(q29 h).bind fun _=>(qam b.logs a.n).bind fun y=>(qdc b.logs a.n h).bind fun r=>(some ({ b with logs:=r }:GRefCluster)).bind fun d=>(qi0 fu a.n g.1).bind fun s=>(inR a.n 6).bind fun _=>(qam d.nodes a.n).bind fun z=>(qdc d.nodes a.n s.1).bind fun t=>(some ({ d with nodes:=t }:GRefCluster)).bind fun e=>(inR a.n 6).bind fun _=>(qam e.down a.n).bind fun aa=>(qdc e.down a.n false).bind fun u=>(some ({ e with down:=u }:GRefCluster)).bind fun v=>ql6 fu v c else ql6 fu b c))))
def qhh (fu:Nat) (a:List GCase) (c:GAct) (b:GRefCluster) (d:Bool):Option (GReply × GRefCluster × (List GCase)):=(bif d then (qs3 fu 2).bind fun e=>(some e).bind fun f=>some (f,b,a) else qr8 fu a c b (Zr.zd:GReply))
def ql7 (fu:Nat) (a:List GCase) (c:GAct) (b:GRefCluster) (d:Bool):Option (GReply × GRefCluster × (List GCase)):=(bif d then qwr fu c (Zr.zd:GReply) b a else (qs3 fu 3).bind fun e=>(some e).bind fun f=>some (f,b,a))
def qiq (fu:Nat) (l3:List GCase) (x5:GAct) (d20:GRefCluster) (c351:Bool):Option (GReply × GRefCluster × (List GCase)):=(bif c351 then (bif decide (x5.n<0) then qhh fu l3 x5 d20 true else (bif decide (x5.n>5) then qhh fu l3 x5 d20 true else (bif x5.kind==7 then (bif decide (x5.m<0) then qhh fu l3 x5 d20 true else qhh fu l3 x5 d20 (decide (x5.m>400))) else qhh fu l3 x5 d20 false))) else (bif x5.kind==2 then ql7 fu l3 x5 d20 (x5.kind==2) else (bif x5.kind==3 then ql7 fu l3 x5 d20 (x5.kind==3) else ql7 fu l3 x5 d20 (x5.kind==4))))
def zaa (fu:Nat) (d:GRefCluster) (b:List GCase) (a:GAct):Option (GReply × GRefCluster × (List GCase)):=(bif d.acts==400 then (qs3 fu 5).bind fun f=>(some f).bind fun g=>some (g,d,b) else (some ({ d with acts:=Gr (d.acts+1) }:GRefCluster)).bind fun c=>(bif a.kind==1 then (bif (b.length:Int)==32 then (qs3 fu 5).bind fun h=>(some h).bind fun i=>some (i,c,b) else (some ({ id:=(b.length:Int),ops:=a.ops }:GTxn)).bind fun j=>(qkp fu j).bind fun e=>(some e.1).bind fun k=>q0k fu b c k e.2.1 e.2.2) else (bif a.kind==5 then (bif decide (a.n<0) then qr7 fu b a c true else qr7 fu b a c (decide (a.n≥(b.length:Int)))) else (bif a.kind==6 then qiq fu b a c (a.kind==6) else (bif a.kind==7 then qiq fu b a c (a.kind==7) else qiq fu b a c (a.kind==8))))))
theorem zd9 {c:Nat} {aa:Gq} {f:Value} {g:Gq} {p:Value} {ab:Gq} {x1:GRefCluster} {l3:List GCase} {d:GAct} {r:GReply × GRefCluster × (List GCase)} (b:St w (qah [Gp c aa 45,.stk f 62 24 g,.row p 9 1]) M [Gp c aa 45,.stk f 62 24 g,.row p 9 1] w) (b0:rep M aa x1) (t:skr M f g l3) (ii:sl aa 1224 1=[f]) (ij:sl aa 1225 1=[p]) (q:rep M ab d) (a:zaa fu x1 l3 d=some r) :
    Calls Tryz.prog 7 #[Gk c,Gj ab] w (qcm M w [Gp c aa 45,.stk f 62 24 g,.row p 9 1] (fun o u L'=>∃ c0 k0 u1 x1 u2,u=Gj c0∧L'=[Gp c k0 45,.stk u1 62 24 x1,.row u2 9 1]∧rep o c0 r.1∧rep o k0 r.2.1∧skr o u1 x1 r.2.2∧sl k0 1224 1=[u1]∧sl k0 1225 1=[u2])):=by
 refine Zk Tryz.func7 366 fun T hT=>?_;have a7:T 0=Gk c:=hT 0;have mo:T 1=Gj ab:=hT 1;rw [zaa] at a;refine Qy ?_;refine Ql<|Yq (v:= Gj ab) (cs:=ab) mo rfl b fun y w6 wz b=>Ql (Zl za0 b ?_);intro b9 _ _ b;have z:rep M (Zr.zc GReply) (Zr.zd:GReply):=Zr.zr;refine Qj<|Qy<|Qa (Qf (evT (fun _=>undef) (.func 18)) rfl)<|Qj<|Qt<|Qy<|Zj a7<|Qa (Q9 rfl)<|Qa (Qi q8h rfl)<|Qa (Qh (Gi x1.acts) Z8 rfl (b.bvB 2 rfl) (U0 (rr b0)))<|Qa (Ya rfl rfl)<|Qj ?_;refine Q6 a rfl (fun mp a=>?_) fun mp a=>?_;refine Qy<|Qa (Qd (evT (fun _=>undef) (.func 18)) rfl) ?_;obtain ⟨mq,mr,a⟩:=Qb a;refine Ql (Ju rfl (Yi (vs:=[Gi 5]) (rv:=(fun o u=>∃ cs,u=Gj cs∧rep o cs mq)) q8k (Zm rfl) b (qjx b.agree mr)) ?_);intro _ ms _ ep mt b;obtain ⟨_,mu,il⟩:=mt;subst mu;replace b0:=Zf ep b0;replace t:=Zh ep.1 t;replace z:=Zf ep z;obtain ⟨_,mv,a⟩:=Qb a;refine Ql (Z7 0 3 b z il (Lf (rr z) il) mv ?_);intro mw _ im _ _ b;refine Qj ?_;cases a;exact Q2 (J6 (j:=0) rfl rfl (V1 K0 im) b rfl ⟨_,ms,_,rfl,ep,(b.sel (H':=[Gp c aa 45,.stk f 62 24 g,.row p 9 1]) [2,3,4] Gg rfl),mw,aa,f,g,p,rfl,rfl,im,b0,t,ii,ij⟩);refine Qk<|Qe<|Qy<|Zj a7<|Qa (Q9 rfl)<|Qa (Qi q8h rfl)<|Qa (Qh (Gi x1.acts) Z8 rfl (b.bvB 2 rfl) (U0 (rr b0)))<|Qa (Zu rfl rfl)<|Qa (Q9 rfl)<|Qa (Qi q8h rfl) ?_;obtain ⟨bn,mx,a⟩:=Qb a;refine Ql (Z7 2 1 b b0 (ri (Gr (x1.acts+1)):rep M _ _) (GRefCluster.u6 (rr b0) (Lf (U0 (rr b0)) (ri (Gr (x1.acts+1)):rep M _ _))) mx ?_);intro af _ s io _ b;have aq:=(io Gf).trans ii;have a4:=(io Gf).trans ij;refine Qj ?_;refine Qp (fun e w'=>∃ bj dq dr a8 b1 au az b2 a0,Mm.ext w.heap.size (qah [Gp c aa 45,.stk f 62 24 g,.row p 9 1]) M bj∧St w (qah [Gp c aa 45,.stk f 62 24 g,.row p 9 1]) bj [Gp b9 dq 48,Gp y ab 29,Gp c a8 45,.stk au 62 24 az,.row a0 9 1] w'∧rep bj dq dr∧rep bj a8 b1∧skr bj au az b2∧sl a8 (0+1224) 1=[au]∧sl a8 (0+1225) 1=[a0]∧e 0=Gk c∧e 3=Gk y∧e 4=Gk b9∧e 5=evT (fun _=>undef) (.func 18)∧qwr fu d dr b1 b2=some r) ?_ ?_;refine Qy<|Qa (Qi J4 rfl)<|Qa (Qh (Gi d.kind) Z8 rfl (b.bvB 1 rfl) (Jc (rr q)))<|Qj<|Qs<|Qy<|Qa (Ya rfl rfl)<|Qa (Qf (.bool (d.kind==1)) rfl)<|Qj ?_;refine Q6 a rfl (fun my a=>?_) fun my a=>?_;refine Qt<|Qy<|Zj a7<|Qa (Q9 rfl)<|Qa (Qi Ua rfl)<|Qa (Qh f q8g rfl (b.bvB 2 rfl) aq) ?_;obtain ⟨_,_,mz,_⟩:=Vw t;refine Qa (Zo K1 (Vz mz rfl))<|Qa (Ya rfl rfl)<|Qj ?_;refine Q6 a rfl (fun m0 a=>?_) fun m0 a=>?_;refine Qy<|Qa (Qd (evT (fun _=>undef) (.func 18)) rfl) ?_;obtain ⟨m1,m2,a⟩:=Qb a;refine Ql (Ju rfl (Yi (vs:=[Gi 5]) (rv:=(fun o u=>∃ cs,u=Gj cs∧rep o cs m1)) q8k (Zm rfl) b (qjx b.agree m2)) ?_);intro _ m3 _ er m4 b;obtain ⟨_,m5,ip⟩:=m4;subst m5;replace t:=Zh er.1 t;replace z:=Zf er z;replace s:=Zf er s;obtain ⟨_,m6,a⟩:=Qb a;refine Ql (Z7 0 3 b z ip (Lf (rr z) ip) m6 ?_);intro m7 _ iq _ _ b;refine Qj ?_;cases a;exact Q2 (J6 (j:=0) rfl rfl (V1 K0 iq) b rfl ⟨_,m3,_,rfl,er,(b.sel (H':=[Gp c af 45,.stk f 62 24 g,.row p 9 1]) [2,3,4] Gg rfl),m7,af,f,g,p,rfl,rfl,iq,s,t,aq,a4⟩);refine Qk<|Qe ?_;refine Qp (fun e w'=>∃ ds cx cy es et gg eu,Mm.ext w.heap.size (qah [Gp c aa 45,.stk f 62 24 g,.row p 9 1]) M ds∧St w (qah [Gp c aa 45,.stk f 62 24 g,.row p 9 1]) ds [Gp cx cy 62,Gp b9 (Zr.zc GReply) 48,Gp y ab 29,Gp c af 45,.stk f 62 24 g,.row p 9 1] w'∧rep ds cy es∧w.heap.size≤cx∧repL ds et gg∧e 6=Gk cx∧e 0=Gk c∧e 4=Gk b9∧e 5=evT (fun _=>undef) (.func 18)∧e 7=et∧e 8=Gi eu∧q0k fu l3 bn es gg eu=some r) ?_ ?_;refine Yp [Gp y ab 29,Gp c af 45] [] Z2 b fun xp b c1 b3=>Qv 0 rfl (Qd _ a7) b3<|Qv 1 rfl (Q9 rfl) b3<|Qv 2 rfl (Qi Ua rfl) b3<|Yx 3 rfl (Qh f q8g rfl (Yl 1 rfl) aq) b3 ?_;obtain ⟨_,_,m8,_⟩:=Vw t;refine Qv 4 rfl (Zo K1 (Vz m8 rfl)) b3<|Qv 5 rfl (Qi zb3 rfl) b3 ?_;obtain ⟨gh,m9,gi⟩:=(GAct.p3 (rr q));refine Yx 6 rfl (Qh gh Va rfl (Yl 0 rfl) m9) b3 ?_;have ir:=GTxn.w0 (Zr.zr:rep M (Zr.zc GTxn) (Zr.zd:GTxn)) (ri (l3.length:Int):rep M _ _);have na:=GTxn.w1 ir (Qq gi);obtain ⟨nb,nc,a⟩:=Qb a;obtain ⟨iu,nd,iv⟩:∃ cs,qa1 (([(0,1),(1,1)]:List (Nat × Nat))[·]?) (Zr.zc GTxn) [(0,Gi (l3.length:Int)),(1,gh)]=some cs∧rep M cs nb:=⟨_,(Zg (Zr.zr:rep M (Zr.zc GTxn) (Zr.zd:GTxn)) rfl rfl (X5 (ri (l3.length:Int):rep M _ _)) Gg (Zg ir rfl (Q4 gi) (X5 (Qq gi)) Gg Yd)),Ye (x:=({ id:=(l3.length:Int),ops:=d.ops }:GTxn)) na nc⟩;refine Qv 7 rfl (Z0 [(0,Gi (l3.length:Int)),(1,gh)] tb71 (Y5 rfl (Y5 rfl Vq)) nd) b3 ?_;obtain ⟨av,iw,a⟩:=Qb a;obtain ⟨ix,iy,a⟩:=Qb a;refine Ue (i:=8) (j:=13) Gh rfl rfl (Yi (vs:=[Gj iu]) (rv:=(fun o u=>∃ c0 v1,u= .tuple #[Gj c0,v1,Gi av.2.2]∧rep o c0 av.1∧repL o v1 av.2.1)) cb19 (Zm rfl) b (qtb b.agree iv iw) ?_) (Zl U7 b ?_);intro nf ev ng bo gj b;obtain ⟨dt,bp,gk,du,gl⟩:=gj;subst gk;refine Yj b (c1.trans bo) fun ew=>Qv 9 rfl (Qd (.tuple #[Gj dt,bp,Gi av.2.2]) rfl) ew<|Qv 10 rfl (Q3 (v:= Gj dt) rfl rfl) ew<|Qv 11 rfl (Q3 (v:=bp) rfl rfl) ew<|Qv 12 rfl (Q3 (v:= Gi av.2.2) rfl rfl) ew ?_;refine w1 13 rfl (Zl U7 b ?_);intro gm nh gn b;have ck:rep ev (Zr.zc GCase) (Zr.zd:GCase):=Zr.zr;refine Yj b (c1.trans bo) fun xs=>?_;refine w1 14 rfl (Z7 0 24 b ck du (Lf (rr ck) du) iy ?_);intro go ni gp nj nk b;refine Yj b (c1.trans bo) fun iz=>Qv 15 rfl (Qf (bp) rfl) iz<|Qv 16 rfl (Qf (Gi av.2.2) rfl) iz<|wd<|Qe ?_;exact ⟨ev,gm,go,ix,bp,av.2.1,av.2.2,bo,b,gp,gn,gl,rfl,a7,rfl,rfl,rfl,rfl,a⟩;intro gm nh gn b;have ck:rep M (Zr.zc GCase) (Zr.zd:GCase):=Zr.zr;refine Yj b c1 fun xt=>?_;refine w1 8 rfl (Yi (vs:=[Gj iu]) (rv:=(fun o u=>∃ c0 v1,u= .tuple #[Gj c0,v1,Gi av.2.2]∧rep o c0 av.1∧repL o v1 av.2.1)) cb19 (Zm rfl) b (qtb b.agree iv iw) ?_);intro nf ev ng bo gj b;obtain ⟨dt,bp,gk,du,gl⟩:=gj;subst gk;replace ck:=Zf bo ck;refine Yj b (c1.trans bo) fun ex=>Qv 9 rfl (Qd (.tuple #[Gj dt,bp,Gi av.2.2]) rfl) ex<|Qv 10 rfl (Q3 (v:= Gj dt) rfl rfl) ex<|Qv 11 rfl (Q3 (v:=bp) rfl rfl) ex<|Qv 12 rfl (Q3 (v:= Gi av.2.2) rfl rfl) ex ?_;refine w1 14 rfl (Z7 0 24 b ck du (Lf (rr ck) du) iy ?_);intro go ni gp nj nk b;refine Yj b (c1.trans bo) fun i0=>Qv 15 rfl (Qf (bp) rfl) i0<|Qv 16 rfl (Qf (Gi av.2.2) rfl) i0<|wd<|Qe ?_;exact ⟨ev,gm,go,ix,bp,av.2.1,av.2.2,bo,b,gp,gn,gl,rfl,a7,rfl,rfl,rfl,rfl,a⟩;rintro _ _ ⟨ds,cx,cy,es,et,gg,eu,dv,b,nl,_,gq,nm,ey,ez,nn,np,i1,a⟩;replace t:=Zh dv.1 t;replace z:=Zf dv z;replace s:=Zf dv s;rw [q0k] at a;refine Qt<|Qy<|Zj i1<|Qa (Ym rfl rfl)<|Qj ?_;refine Q6 a rfl (fun nq a=>?_) fun nq a=>?_;refine Qy<|Zj nn<|Zj i1 ?_;obtain ⟨nr,ns,a⟩:=Qb a;refine Ql (Ju rfl (Yi (vs:=[Gi eu]) (rv:=(fun o u=>∃ cs,u=Gj cs∧rep o cs nr)) q8k (Zm rfl) b (qjx b.agree ns)) ?_);intro _ nt _ e0 nu b;obtain ⟨_,nv,i2⟩:=nu;subst nv;replace t:=Zh e0.1 t;replace z:=Zf e0 z;replace s:=Zf e0 s;obtain ⟨_,nw,a⟩:=Qb a;refine Ql<|Z3 1 3 b rfl z ez rfl i2 rfl rfl (Lf (rr z) i2) nw fun nx x2 i3 x3 x4 b=>Qj ?_;cases a;exact Q2 (J6 (j:=1) rfl ez (V1 K0 i3) b rfl ⟨_,nt,_,rfl,(dv.trans e0),(b.sel (H':=[Gp c af 45,.stk f 62 24 g,.row p 9 1]) [3,4,5] Gg rfl),nx,af,f,g,p,rfl,rfl,i3,s,t,aq,a4⟩);refine Qk<|Qe<|Qt<|Yp [Gp cx cy 62,Gp c af 45] [10] Z2 b fun x6 b i4 c2=>Qv 0 rfl (Qd _ ey) c2<|Qv 1 rfl (Qd _ ey) c2<|Qv 2 rfl (Q9 rfl) c2<|Qv 3 rfl (Qi Ua rfl) c2<|Yx 4 rfl (Qh f q8g rfl (Yl 1 rfl) aq) c2 ?_;have i5:=(rr nl);refine Yx 5 rfl (Za Y8 nm (Yl 0 rfl) (X5 i5)) c2 ?_;refine w1 6 rfl (Z1 (α := GCase) (l:=([es]:List GCase)) [Gj (sl cy (0) 24)] tl42 (Y5 rfl Vq) rfl rfl Gg Gg Gg b (Jq i5 J1) ?_);intro _ _ _ cl ny b;replace t:=Zh cl.1 t;replace s:=Zf cl s;replace gq:=Qo cl.1 gq;refine Yj b (i4.trans cl) fun ya=>?_;obtain ⟨_,nz,n0,a⟩:=Z5 a;refine w1 7 rfl (q49 (α := GCase) (j:=4) tp42 b rfl rfl rfl t ny nz ?_);intro n1 n2 _ dw b;rw [← n0] at dw;refine Yj b (i4.trans cl) fun i6=>Qv 8 rfl (Q9 rfl) i6<|Qv 9 rfl (Qi Ua rfl) i6 ?_;obtain ⟨_,n3,a⟩:=Qb a;refine w1 10 rfl (Z3 3 1 b rfl s rfl rfl (Jn dw) (U5 dw) rfl (GRefCluster.u4 (rr s) (Lf (GRefCluster.p4 (rr s)) (Jn dw))) n3 ?_);intro n4 _ n5 n6 n7 b;have n8:=(n6 Gf).trans a4;have n9:=n7;refine ⟨nB,?_⟩;refine wd<|Qe<|Qy<|Zj ey<|Zj np ?_;obtain ⟨cm,oa,a⟩:=Qb a;refine Ql (Yg (vs:=[Gk c,et]) (L:=[Gp c n4 45,.stk n1 62 24 n2,.row p 9 1]) (R:=[Gp cx cy 62,Gp b9 (Zr.zc GReply) 48,Gp y ab 29]) (rv:=(fun o u L'=>∃ k0 u1 x1 u2,u= .tuple #[]∧L'=[Gp c k0 45,.stk u1 62 24 x1,.row u2 9 1]∧rep o k0 cm.1∧skr o u1 x1 cm.2∧sl k0 1224 1=[u1]∧sl k0 1225 1=[u2])) zhc (Z4 rfl rfl) b (b.sel [3,4,5,0,1,2] Gg rfl) (fun b=>qr6 b n5 dw n9 n8 gq oa) ?_);rintro _ c3 _ _ i7 ⟨i8,gr,i9,ja,rfl,ob,oc,jb,jc,od⟩ b;replace b:=b _ ob;replace z:=Zf (cl.trans i7) z;refine Qj<|Qy<|Zj ey<|Qa (Q9 rfl)<|Qa (Qi Ua rfl)<|Qa (Qh gr q8g rfl (b.bvB 0 rfl) jc) ?_;obtain ⟨_,_,oe,_⟩:=Vw jb;refine Qa (Zo K1 (Vz oe rfl))<|Qa (Jh rfl rfl) ?_;have og:=Jk (Zr.zr:rep c3 (Zr.zc GReply) (Zr.zd:GReply)) (ri (Gr ((cm.2.length:Int)-1)):rep c3 _ _);obtain ⟨oh,oi,a⟩:=Qb a;obtain ⟨_,oj,jd⟩:∃ cs,qa1 (([(0,1),(1,1),(2,1)]:List (Nat × Nat))[·]?) (Zr.zc GReply) [(1,Gi (Gr ((cm.2.length:Int)-1)))]=some cs∧rep c3 cs oh:=⟨_,(Zg (Zr.zr:rep c3 (Zr.zc GReply) (Zr.zd:GReply)) rfl rfl (X5 (ri (Gr ((cm.2.length:Int)-1)):rep c3 _ _)) Gg Yd),Ye (x:=({ code:=Zr.zd,n:=Gr ((cm.2.length:Int)-1),values:=Zr.zd }:GReply)) og oi⟩;refine Qa (Z0 [(1,Gi (Gr ((cm.2.length:Int)-1)))] Up (Y5 rfl Vq) oj) ?_;obtain ⟨_,ok,a⟩:=Qb a;refine Ql<|Z3 4 3 b rfl z ez rfl jd rfl rfl (Lf (rr z) jd) ok fun ol ym je yn yo b=>Qj ?_;cases a;exact Q2 (J6 (j:=4) rfl ez (V1 K0 je) b rfl ⟨_,c3,_,rfl,(dv.trans (cl.trans i7)),(b.sel (H':=[Gp c i8 45,.stk gr 62 24 i9,.row ja 9 1]) [0,1,2] Gg rfl),ol,i8,gr,i9,ja,rfl,rfl,je,oc,jb,jc,od⟩);refine Qy<|Qa (Ya rfl rfl)<|Qa (Qf (.bool (d.kind==5)) rfl)<|Qj ?_;refine Q6 a rfl (fun om a=>?_) fun om a=>?_;refine Qp (fun e w'=>∃ e1 e2 gs,Mm.ext w.heap.size (qah [Gp c aa 45,.stk f 62 24 g,.row p 9 1]) M e1∧St w (qah [Gp c aa 45,.stk f 62 24 g,.row p 9 1]) e1 [Gp b9 e2 48,Gp y ab 29,Gp c af 45,.stk f 62 24 g,.row p 9 1] w'∧rep e1 e2 gs∧e 0=Gk c∧e 3=Gk y∧e 4=Gk b9∧q0l fu l3 d bn gs=some r) ?_ ?_;refine Qp (fun e w'=>∃ e3 gt,Mm.ext w.heap.size (qah [Gp c aa 45,.stk f 62 24 g,.row p 9 1]) M e3∧St w (qah [Gp c aa 45,.stk f 62 24 g,.row p 9 1]) e3 [Gp b9 (Zr.zc GReply) 48,Gp y ab 29,Gp c af 45,.stk f 62 24 g,.row p 9 1] w'∧e 0=Gk c∧e 3=Gk y∧e 4=Gk b9∧e 5=evT (fun _=>undef) (.func 18)∧e 102= .bool gt∧qr7 fu l3 d bn gt=some r) ?_ ?_;refine Yp [Gp y ab 29,Gp c af 45] [] Z2 b fun yp b yq aj=>Qv 0 rfl (Qi Vf rfl) aj<|Yx 1 rfl (Qh (Gi d.n) Z8 rfl (Yl 0 rfl) (Yy (rr q))) aj<|Qv 2 rfl (Zt rfl rfl) aj<|Qv 3 rfl (Qd (.bool (decide (d.n<0))) rfl) aj ?_;rcases ic a with ⟨jf,a⟩ | ⟨jf,a⟩<;>rw [jf];refine Vn 4 (j:=3) rfl rfl rfl rfl (fun _=>aj)<|Vn 5 (j:=3) rfl rfl rfl rfl (fun _=>aj)<|Vn 6 (j:=3) rfl rfl rfl rfl (fun _=>aj)<|Vn 7 (j:=3) rfl rfl rfl rfl (fun _=>aj)<|Vn 8 (j:=3) rfl rfl rfl rfl (fun _=>aj)<|Vn 9 (j:=3) rfl rfl rfl rfl (fun _=>aj)<|Vn 10 (j:=3) rfl rfl rfl rfl (fun _=>aj)<|Vn 11 (j:=3) rfl rfl rfl rfl (fun _=>aj)<|Qv 12 rfl (Zn (.bool true) rfl rfl) aj<|wd<|Qe ?_;exact ⟨M,true,(Qc _ _ _),b,a7,rfl,rfl,rfl,rfl,a⟩;refine Km 4 rfl rfl rfl (Qi Vf rfl) (fun _=>aj)<|Jz 5 rfl rfl rfl (Qh (Gi d.n) Z8 rfl (Yl 0 rfl) (Yy (rr q))) aj<|Km 6 rfl rfl rfl (Qd _ a7) (fun _=>aj)<|Km 7 rfl rfl rfl (Q9 rfl) (fun _=>aj)<|Km 8 rfl rfl rfl (Qi Ua rfl) (fun _=>aj)<|Jz 9 rfl rfl rfl (Qh f q8g rfl (Yl 1 rfl) aq) aj ?_;obtain ⟨_,_,oo,_⟩:=Vw t;refine Km 10 rfl rfl rfl (Zo K1 (Vz oo rfl)) (fun _=>aj)<|Km 11 rfl rfl rfl (V5 rfl rfl) (fun _=>aj)<|Qv 12 rfl (Q7 (.bool (decide (d.n≥(l3.length:Int)))) rfl rfl) aj<|wd<|Qe ?_;exact ⟨M,(decide (d.n≥(l3.length:Int))),(Qc _ _ _),b,a7,rfl,rfl,rfl,rfl,a⟩;rintro _ _ ⟨e3,gt,dx,b,op,oq,gu,os,ot,a⟩;replace t:=Zh dx.1 t;replace z:=Zf dx z;replace s:=Zf dx s;rw [qr7] at a;refine Q6 a ot (fun ou a=>?_) fun ou a=>?_;refine Qy<|Zj os ?_;obtain ⟨ov,ow,a⟩:=Qb a;refine Ql (Ju rfl (Yi (vs:=[Gi 4]) (rv:=(fun o u=>∃ cs,u=Gj cs∧rep o cs ov)) q8k (Zm rfl) b (qjx b.agree ow)) ?_);intro _ ox _ e4 oy b;obtain ⟨_,oz,jg⟩:=oy;subst oz;replace t:=Zh e4.1 t;replace z:=Zf e4 z;replace s:=Zf e4 s;obtain ⟨_,o0,a⟩:=Qb a;refine Ql<|Z3 0 3 b rfl z gu rfl jg rfl rfl (Lf (rr z) jg) o0 fun o1 yz jh y0 y1 b=>Qj ?_;cases a;exact Q2 (J6 (j:=0) rfl gu (V1 K0 jh) b rfl ⟨_,ox,_,rfl,(dx.trans e4),(b.sel (H':=[Gp c af 45,.stk f 62 24 g,.row p 9 1]) [2,3,4] Gg rfl),o1,af,f,g,p,rfl,rfl,jh,s,t,aq,a4⟩);refine Qk<|Qe ?_;exact ⟨e3,(Zr.zc GReply),(Zr.zd:GReply),dx,b,z,op,oq,gu,a⟩;rintro _ _ ⟨e1,e2,gs,e5,b,e6,gv,e7,ji,a⟩;replace t:=Zh e5.1 t;replace q:=Zf e5 q;rw [q0l] at a;refine Qt<|Yp [Gp y ab 29,Gp c af 45,.stk f 62 24 g] [12] Z2 b fun y4 b o3 bg=>Qv 0 rfl (Qd _ gv) bg<|Qv 1 rfl (Qd _ gv) bg<|Qv 2 rfl (Q9 rfl) bg<|Qv 3 rfl (Qi Ua rfl) bg<|wlC (inL [7,8,11,12]) 4 rfl (Qh f q8g rfl (Yl 1 rfl) aq) bg<|Qv 5 rfl (Qi Vf e7) bg<|wlC (inL [7,8,11,12]) 6 rfl (Qh (Gi d.n) Z8 rfl (Yl 0 rfl) (Yy (rr q))) bg ?_;obtain ⟨o4,o5,a⟩:=Qb a;obtain ⟨_,jj,_,o6,o7,o8,o9,gw⟩:=Ui (b.skv (j:=3) rfl t) o5;replace gw:rep _ (sl g (jj+Int.toNat d.n*24) 24) o4:=gw;refine Qv 7 rfl (Yr zfp rfl o6 rfl o7 o8) bg ?_;have jk:=gw;refine wlC (inL [11,12]) 8 rfl (Za Y8 rfl (zjn 2 rfl o9) (X5 jk)) bg<|Qv 9 rfl (Qi Vf e7) bg<|wlC (inL [11,12]) 10 rfl (Qh (Gi d.n) Z8 rfl (Yl 0 rfl) (Yy (rr q))) bg ?_;obtain ⟨jl,pa,a⟩:=Qb a;refine w1 11 rfl (Yi (vs:=[Gj (sl g (jj+Int.toNat d.n*24) 24),Gi d.n]) (rv:=(fun o u=>repL o u jl)) zis (Z4 rfl rfl) b (qmw b.agree jk pa) ?_);intro jm pb _ c4 pc b;have pd:repL pb jm jl:=pc;replace t:=Zh c4.1 t;replace s:=Zf (e5.trans c4) s;refine Yj b (o3.trans c4) fun y8=>?_;obtain ⟨jn,pe,a⟩:=Qb a;refine w1 12 rfl (Yg (vs:=[Gk c,jm]) (L:=[Gp c af 45,.stk f 62 24 g,.row p 9 1]) (R:=[Gp b9 e2 48,Gp y ab 29]) (rv:=(fun o u L'=>∃ k0 u1 x1 u2,u= .tuple #[]∧L'=[Gp c k0 45,.stk u1 62 24 x1,.row u2 9 1]∧rep o k0 jn.1∧skr o u1 x1 jn.2∧sl k0 1224 1=[u1]∧sl k0 1225 1=[u2])) zhc (Z4 rfl rfl) b (b.sel [2,3,4,0,1] Gg rfl) (fun b=>qr6 b s t aq a4 pd pe) ?_);rintro _ _ _ _ gx ⟨gy,e8,dy,jo,rfl,pf,gz,e9,jp,pg⟩ b;replace b:=b _ pf;replace q:=Zf (c4.trans gx) q;refine ⟨nB,?_⟩;refine wd<|Qe<|Qt<|Yp [Gp c gy 45,Gp y ab 29,.stk e8 62 24 dy] [] Z2 b fun zf b ph b4=>Qv 0 rfl (Qd _ gv) b4<|Qv 1 rfl (Q9 rfl) b4<|Qv 2 rfl (Qi Ua rfl) b4<|Yx 3 rfl (Qh e8 q8g rfl (Yl 0 rfl) jp) b4<|Qv 4 rfl (Qi Vf e7) b4<|Yx 5 rfl (Qh (Gi d.n) Z8 rfl (Yl 1 rfl) (Yy (rr q))) b4 ?_;obtain ⟨pj,pk,a⟩:=Qb a;obtain ⟨_,jq,_,pl,pm,pn,po,g1⟩:=Ui (b.skv (j:=1) rfl e9) pk;replace g1:rep _ (sl dy (jq+Int.toNat d.n*24) 24) pj:=g1;refine Qv 6 rfl (Yr zfp rfl pl rfl pm pn) b4 ?_;have jr:=g1;refine Yx 7 rfl (Za Y8 rfl (zjn 2 rfl po) (X5 jr)) b4 ?_;obtain ⟨c5,pp,a⟩:=Qb a;refine w1 8 rfl (Yi (vs:=[Gj (sl dy (jq+Int.toNat d.n*24) 24)]) (rv:=(fun o u=>∃ v0,u= .tuple #[v0,.bool c5.2]∧repL o v0 c5.1)) cb22 (Zm rfl) b (qva b.agree jr pp) ?_);intro _ c6 _ c7 pq b;obtain ⟨c8,pr,g2⟩:=pq;subst pr;replace q:=Zf c7 q;replace e6:=Bs (c4.1.trans (gx.1.trans c7.1)) e6;replace gz:=Zf c7 gz;replace e9:=Zh c7.1 e9;refine Yj b (ph.trans c7) fun dz=>Qv 9 rfl (Qd (.tuple #[c8,.bool c5.2]) rfl) dz<|Qv 10 rfl (Q3 (v:=c8) rfl rfl) dz<|Qv 11 rfl (Q3 (v:= .bool c5.2) rfl rfl) dz<|Qv 12 rfl (Qf (c8) rfl) dz<|Qv 13 rfl (Qf (.bool c5.2) rfl) dz<|wd<|Qe<|Qy<|Qa (Qi Vf e7)<|Qa (Qh (Gi d.n) Z8 rfl (b.bvB 4 rfl) (Yy (rr q)))<|Qa (Qd (c8) rfl) ?_;have js:=Jk (Zr.zr:rep c6 (Zr.zc GReply) (Zr.zd:GReply)) (ri d.n:rep c6 _ _);have ps:=GReply.w2 js (Qq g2);obtain ⟨pu,pv,a⟩:=Qb a;obtain ⟨_,pw,jt⟩:∃ cs,qa1 (([(0,1),(1,1),(2,1)]:List (Nat × Nat))[·]?) (Zr.zc GReply) [(1,Gi d.n),(2,c8)]=some cs∧rep c6 cs pu:=⟨_,(Zg (Zr.zr:rep c6 (Zr.zc GReply) (Zr.zd:GReply)) rfl rfl (X5 (ri d.n:rep c6 _ _)) Gg (Zg js rfl (Q4 g2) (X5 (Qq g2)) Gg Yd)),Ye (x:=({ code:=Zr.zd,n:=d.n,values:=c5.1 }:GReply)) ps pv⟩;refine Qa (Z0 [(1,Gi d.n),(2,c8)] Up (Y5 rfl (Y5 rfl Vq)) pw) ?_;obtain ⟨_,px,a⟩:=Qb a;refine Ql<|Z3 3 3 b rfl e6 ji rfl jt rfl rfl (Lf (rr e6) jt) px fun py zm ju zn zo b=>Qj ?_;cases a;exact Q2 (J6 (j:=3) rfl ji (V1 K0 ju) b rfl ⟨_,c6,_,rfl,(e5.trans (c4.trans (gx.trans c7))),(b.sel (H':=[Gp c gy 45,.stk e8 62 24 dy,.row jo 9 1]) [0,1,2] Gg rfl),py,gy,e8,dy,jo,rfl,rfl,ju,gz,e9,jp,pg⟩);refine Qp (fun e w'=>∃ a1 g3,Mm.ext w.heap.size (qah [Gp c aa 45,.stk f 62 24 g,.row p 9 1]) M a1∧St w (qah [Gp c aa 45,.stk f 62 24 g,.row p 9 1]) a1 [Gp b9 (Zr.zc GReply) 48,Gp y ab 29,Gp c af 45,.stk f 62 24 g,.row p 9 1] w'∧e 0=Gk c∧e 3=Gk y∧e 4=Gk b9∧e 5=evT (fun _=>undef) (.func 18)∧e 37=Gi d.kind∧e 134= .bool g3∧qiq fu l3 d bn g3=some r) ?_ ?_;refine Qy<|Qa (Ya rfl rfl)<|Qa (Qf (.bool (d.kind==6)) rfl)<|Qj ?_;refine Q6 a rfl (fun pz a=>?_) fun pz a=>?_;refine Qk<|Qe ?_;exact ⟨M,(d.kind==6),(Qc _ _ _),b,a7,rfl,rfl,rfl,rfl,rfl,a⟩;refine Qy<|Qa (Ya rfl rfl)<|Qa (Qf (.bool (d.kind==7)) rfl)<|Qj ?_;refine Q6 a rfl (fun p0 a=>?_) fun p0 a=>?_;refine Qk<|Qe ?_;exact ⟨M,(d.kind==7),(Qc _ _ _),b,a7,rfl,rfl,rfl,rfl,rfl,a⟩;refine Q1<|Qa (Ya rfl rfl)<|Qa (Qf (.bool (d.kind==8)) rfl)<|Qj ?_;exact ⟨M,(d.kind==8),(Qc _ _ _),b,a7,rfl,rfl,rfl,rfl,rfl,a⟩;rintro _ _ ⟨a1,g3,bq,b,b6,a5,b8,ca,g4,p1,a⟩;replace t:=Zh bq.1 t;replace q:=Zf bq q;replace z:=Zf bq z;replace s:=Zf bq s;rw [qiq] at a;refine Q6 a p1 (fun p2 a=>?_) fun p2 a=>?_;refine Qp (fun e w'=>∃ br c9 g5,Mm.ext w.heap.size (qah [Gp c aa 45,.stk f 62 24 g,.row p 9 1]) a1 br∧St w (qah [Gp c aa 45,.stk f 62 24 g,.row p 9 1]) br [Gp b9 c9 48,Gp y ab 29,Gp c af 45,.stk f 62 24 g,.row p 9 1] w'∧rep br c9 g5∧e 0=Gk c∧e 3=Gk y∧e 4=Gk b9∧e 5=evT (fun _=>undef) (.func 18)∧qr8 fu l3 d bn g5=some r) ?_ ?_;refine Qp (fun e w'=>∃ fa g6,Mm.ext w.heap.size (qah [Gp c aa 45,.stk f 62 24 g,.row p 9 1]) a1 fa∧St w (qah [Gp c aa 45,.stk f 62 24 g,.row p 9 1]) fa [Gp b9 (Zr.zc GReply) 48,Gp y ab 29,Gp c af 45,.stk f 62 24 g,.row p 9 1] w'∧e 0=Gk c∧e 3=Gk y∧e 4=Gk b9∧e 5=evT (fun _=>undef) (.func 18)∧e 160= .bool g6∧qhh fu l3 d bn g6=some r) ?_ ?_;refine Q1<|Qa (Qi Vf a5)<|Qa (Qh (Gi d.n) Z8 rfl (b.bvB 1 rfl) (Yy (rr q)))<|Qa (Zt rfl rfl)<|Qa (Qd (.bool (decide (d.n<0))) rfl) ?_;rcases ic a with ⟨jv,a⟩ | ⟨jv,a⟩<;>rw [jv];refine Qw 19 rfl<|Qj ?_;exact ⟨a1,true,(Qc _ _ _),b,b6,a5,b8,ca,rfl,a⟩;refine Qg rfl rfl (Qi Vf a5)<|Qg rfl rfl (Qh (Gi d.n) Z8 rfl (b.bvB 1 rfl) (Yy (rr q)))<|Qg rfl rfl (Y3 rfl rfl)<|Qw 2 rfl ?_;rcases ic a with ⟨jw,a⟩ | ⟨jw,a⟩<;>rw [jw];refine Qw 14 rfl<|Qj ?_;exact ⟨a1,true,(Qc _ _ _),b,b6,a5,b8,ca,rfl,a⟩;refine Qg rfl rfl (Qi J4 a5)<|Qg rfl rfl (Qh (Gi d.kind) Z8 rfl (b.bvB 1 rfl) (Jc (rr q)))<|Qg rfl rfl (Ya rfl rfl)<|Qg rfl rfl (Qd (.bool (d.kind==7)) rfl) ?_;rcases ic a with ⟨jx,a⟩ | ⟨jx,a⟩<;>rw [jx];refine Qg rfl rfl (Qi qxs a5)<|Qg rfl rfl (Qh (Gi d.m) Z8 rfl (b.bvB 1 rfl) (Xl (rr q)))<|Qg rfl rfl (Zt rfl rfl)<|Qg rfl rfl (Qd (.bool (decide (d.m<0))) rfl) ?_;rcases ic a with ⟨jy,a⟩ | ⟨jy,a⟩<;>rw [jy];refine Qw 3 rfl<|Qg rfl rfl (Zn (.bool true) rfl rfl)<|Qg rfl rfl (Zn (.bool true) rfl rfl)<|Qa (Q7 (.bool true) rfl rfl)<|Qj ?_;exact ⟨a1,true,(Qc _ _ _),b,b6,a5,b8,ca,rfl,a⟩;refine Qg rfl rfl (Qi qxs a5)<|Qg rfl rfl (Qh (Gi d.m) Z8 rfl (b.bvB 1 rfl) (Xl (rr q)))<|Qg rfl rfl (Y3 rfl rfl)<|Qg rfl rfl (Q7 (.bool (decide (d.m>400))) rfl rfl)<|Qg rfl rfl (Zn (.bool (decide (d.m>400))) rfl rfl)<|Qa (Q7 (.bool (decide (d.m>400))) rfl rfl)<|Qj ?_;exact ⟨a1,(decide (d.m>400)),(Qc _ _ _),b,b6,a5,b8,ca,rfl,a⟩;refine Qw 8 rfl<|Qg rfl rfl (Q7 (.bool false) rfl rfl)<|Qa (Q7 (.bool false) rfl rfl)<|Qj ?_;exact ⟨a1,false,(Qc _ _ _),b,b6,a5,b8,ca,rfl,a⟩;rintro _ _ ⟨fa,g6,d0,b,p5,p6,g7,jz,p7,a⟩;replace t:=Zh d0.1 t;replace z:=Zf d0 z;replace s:=Zf d0 s;rw [qhh] at a;refine Q6 a p7 (fun p8 a=>?_) fun p8 a=>?_;refine Qy<|Zj jz ?_;obtain ⟨p9,qa,a⟩:=Qb a;refine Ql (Ju rfl (Yi (vs:=[Gi 2]) (rv:=(fun o u=>∃ cs,u=Gj cs∧rep o cs p9)) q8k (Zm rfl) b (qjx b.agree qa)) ?_);intro _ qb _ fb qc b;obtain ⟨_,qd,j0⟩:=qc;subst qd;replace t:=Zh fb.1 t;replace z:=Zf fb z;replace s:=Zf fb s;obtain ⟨_,qe,a⟩:=Qb a;refine Ql<|Z3 0 3 b rfl z g7 rfl j0 rfl rfl (Lf (rr z) j0) qe fun qf zz j1 z0 z1 b=>Qj ?_;cases a;exact Q2 (J6 (j:=0) rfl g7 (V1 K0 j1) b rfl ⟨_,qb,_,rfl,(bq.trans (d0.trans fb)),(b.sel (H':=[Gp c af 45,.stk f 62 24 g,.row p 9 1]) [2,3,4] Gg rfl),qf,af,f,g,p,rfl,rfl,j1,s,t,aq,a4⟩);refine Qk<|Qe ?_;exact ⟨fa,(Zr.zc GReply),(Zr.zd:GReply),d0,b,z,p5,p6,g7,jz,a⟩;rintro _ _ ⟨br,c9,g5,d1,b,cb,cc,a9,da,d2,a⟩;replace t:=Zh d1.1 t;replace q:=Zf d1 q;replace s:=Zf d1 s;rw [qr8] at a;refine Qt<|Qt<|Uc Z2 Gh b<|Yo (Qd _ cc)<|Yo (Qi Vf a9)<|Yo (Qh (Gi d.n) Z8 rfl (q77 (j:=1) rfl) (Yy (rr q)))<|Yo (Q9 rfl)<|Yo (Qi q03 rfl) ?_;obtain ⟨qg,qh,a⟩:=Qm a;refine Yo (Zb J7 rfl rfl qg qh) ?_;obtain ⟨qi,qj,a⟩:=Qb a;refine Yo (Qh (.bool qi) Jf rfl (q77 (j:=2) rfl) (vp (k:=1) rfl rfl (Kl (rr s)) qj))<|Yo (Qi J4 a9)<|Yo (Qh (Gi d.kind) Z8 rfl (q77 (j:=1) rfl) (Jc (rr q)))<|Yo (Ya rfl rfl)<|Yo (q7q rfl rfl V4)<|Ur ?_;intro _ b;refine Qe ?_;refine Q6 a rfl (fun qk a=>?_) fun qk a=>?_;refine Qy<|Zj d2 ?_;obtain ⟨ql,qm,a⟩:=Qb a;refine Ql (Ju rfl (Yi (vs:=[Gi 6]) (rv:=(fun o u=>∃ cs,u=Gj cs∧rep o cs ql)) q8k (Zm rfl) b (qjx b.agree qm)) ?_);intro _ qn _ fc qo b;obtain ⟨_,qp,j2⟩:=qo;subst qp;replace t:=Zh fc.1 t;replace s:=Zf fc s;replace cb:=Zf fc cb;obtain ⟨_,qq,a⟩:=Qb a;refine Ql<|Z3 0 3 b rfl cb da rfl j2 rfl rfl (Lf (rr cb) j2) qq fun qr z9 j3 Ca Cb b=>Qj ?_;cases a;exact Q2 (J6 (j:=0) rfl da (V1 K0 j3) b rfl ⟨_,qn,_,rfl,(bq.trans (d1.trans fc)),(b.sel (H':=[Gp c af 45,.stk f 62 24 g,.row p 9 1]) [2,3,4] Gg rfl),qr,af,f,g,p,rfl,rfl,j3,s,t,aq,a4⟩);refine Qk<|Qe ?_;refine Qp (fun e w'=>∃ d3 cn g8 db d4 g9 d5,Mm.ext w.heap.size (qah [Gp c aa 45,.stk f 62 24 g,.row p 9 1]) br d3∧St w (qah [Gp c aa 45,.stk f 62 24 g,.row p 9 1]) d3 [Gp b9 c9 48,Gp y ab 29,Gp c cn 45,.stk db 62 24 d4,.row d5 9 1] w'∧rep d3 cn g8∧skr d3 db d4 g9∧sl cn (0+1224) 1=[db]∧sl cn (0+1225) 1=[d5]∧e 4=Gk b9∧e 5=evT (fun _=>undef) (.func 18)∧ql6 fu g8 g9=some r) ?_ ?_;refine Qy<|Qa (Qi J4 a9)<|Qa (Qh (Gi d.kind) Z8 rfl (b.bvB 1 rfl) (Jc (rr q)))<|Qj<|Qs<|Qy<|Qa (Ya rfl rfl)<|Qa (Qf (.bool (d.kind==6)) rfl)<|Qj ?_;refine Q6 a rfl (fun qs a=>?_) fun qs a=>?_;refine Q1<|Zj cc<|Qa (Qi Vf a9)<|Qa (Qh (Gi d.n) Z8 rfl (b.bvB 1 rfl) (Yy (rr q))) ?_;obtain ⟨fd,qt,a⟩:=Qb a;refine Ql (Yg (vs:=[Gk c,Gi d.n]) (L:=[Gp c af 45,.stk f 62 24 g,.row p 9 1]) (R:=[Gp b9 c9 48,Gp y ab 29]) (rv:=(fun o u L'=>∃ k0 u1 x1 u2,u= .tuple #[]∧L'=[Gp c k0 45,.stk u1 62 24 x1,.row u2 9 1]∧rep o k0 fd.1∧skr o u1 x1 fd.2∧sl k0 1224 1=[u1]∧sl k0 1225 1=[u2])) cb23 (Z4 rfl rfl) b (b.sel [2,3,4,0,1] Gg rfl) (fun b=>q2u b s t aq a4 qt) ?_);rintro _ qu _ _ qv ⟨j4,j5,j6,j7,rfl,qw,qx,qy,qz,q0⟩ b;replace b:=b _ qw;refine Yn<|Q8<|Qe ?_;exact ⟨qu,j4,fd.1,j5,j6,fd.2,j7,qv,(b.sel (H':=[Gp b9 c9 48,Gp y ab 29,Gp c j4 45,.stk j5 62 24 j6,.row j7 9 1]) [3,4,0,1,2] Gg rfl),qx,qy,qz,q0,da,d2,a⟩;refine Qy<|Qa (Ya rfl rfl)<|Qa (Qf (.bool (d.kind==7)) rfl)<|Qj ?_;refine Q6 a rfl (fun q1 a=>?_) fun q1 a=>?_;refine Yp [Gp y ab 29] [] Z2 b fun Cf b q2 bs=>Qv 0 rfl (Qd _ cc) bs<|Qv 1 rfl (Qi Vf a9) bs<|Yx 2 rfl (Qh (Gi d.n) Z8 rfl (Yl 0 rfl) (Yy (rr q))) bs<|Qv 3 rfl (Qi qxs a9) bs<|Yx 4 rfl (Qh (Gi d.m) Z8 rfl (Yl 0 rfl) (Xl (rr q))) bs<|Qv 5 rfl (Zu rfl rfl) bs<|Qv 6 rfl (Q9 rfl) bs<|Qv 7 rfl (Qi q46 rfl) bs ?_;obtain ⟨q3,q4,a⟩:=Qm a;refine Qv 8 rfl (Zb zay rfl rfl q3 q4) bs ?_;obtain ⟨_,j8,a⟩:=Qb a;obtain ⟨_,q5,a⟩:=Qb a;obtain ⟨q6,q7,a⟩:=Qb a;have Ci:=(Zw j8);refine w1 9 rfl (Z7 2 1 b s (ri (Gr (d.m+1)):rep br _ _) (GRefCluster.u3 (rr s) (vu (k:=1) rfl rfl (K6 (rr s)) (Lf (vp (k:=1) rfl rfl (K6 (rr s)) j8) (ri (Gr (d.m+1)):rep br _ _)) q5)) q7 ?_);intro q8 _ q9 j9 _ b;have ra:=(j9 Gf).trans aq;have rc:=(j9 Gf).trans a4;refine Yj b q2 fun Cl=>wd<|Q8<|Qe ?_;exact ⟨br,q8,q6,f,g,l3,p,(Qc _ _ _),b,q9,t,ra,rc,da,d2,a⟩;refine Qy<|Qa (Ya rfl rfl)<|Qa (Qf (.bool (d.kind==8)) rfl)<|Qj ?_;refine Q6 a rfl (fun rd a=>?_) fun rd a=>?_;refine Qt<|Yp [Gp y ab 29,Gp c af 45] [] Z2 b fun Cm b re co=>Qv 0 rfl (Qd _ cc) co<|Qv 1 rfl (Qi Vf a9) co<|Yx 2 rfl (Qh (Gi d.n) Z8 rfl (Yl 0 rfl) (Yy (rr q))) co<|Qv 3 rfl (Q9 rfl) co<|Qv 4 rfl (Qi Xd rfl) co ?_;obtain ⟨rf,rg,a⟩:=Qm a;refine Qv 5 rfl (Zb Xb rfl rfl rf rg) co ?_;obtain ⟨ka,rh,a⟩:=Qb a;refine Yx 6 rfl (Qh (.string ka) ts9 rfl (Yl 1 rfl) (vp (k:=1) rfl rfl (Vg (rr s)) rh).1) co ?_;obtain ⟨cp,rj,a⟩:=Qb a;refine w1 7 rfl (Yi (vs:=[.string ka]) (rv:=(fun o u=>∃ v0,u= .tuple #[v0,Gi cp.2]∧repL o v0 cp.1)) cb24 (Zm rfl) b (q7g b.agree rj) ?_);intro _ kb _ d6 rk b;obtain ⟨d7,rl,rm⟩:=rk;subst rl;replace q:=Zf d6 q;replace s:=Zf d6 s;refine Yj b (re.trans d6) fun d8=>Qv 8 rfl (Qd (.tuple #[d7,Gi cp.2]) rfl) d8<|Qv 9 rfl (Q3 (v:=d7) rfl rfl) d8<|Qv 10 rfl (Q3 (v:= Gi cp.2) rfl rfl) d8<|Qv 11 rfl (Qf (d7) rfl) d8<|Qv 12 rfl (Qf (Gi cp.2) rfl) d8<|wd<|Qe<|Qt<|Yp [Gp y ab 29,Gp c af 45] [15] Z2 b fun Cp b Cq ay=>Qv 0 rfl (Qd _ cc) ay<|Qv 1 rfl (Qi Vf a9) ay<|Yx 2 rfl (Qh (Gi d.n) Z8 rfl (Yl 0 rfl) (Yy (rr q))) ay<|Qv 3 rfl (Qd _ cc) ay<|Qv 4 rfl (Qi Vf a9) ay<|Yx 5 rfl (Qh (Gi d.n) Z8 rfl (Yl 0 rfl) (Yy (rr q))) ay<|Qv 6 rfl (Q9 rfl) ay<|Qv 7 rfl (Qi Xd rfl) ay ?_;obtain ⟨rn,ro,a⟩:=Qm a;refine Qv 8 rfl (Zb Xb rfl rfl rn ro) ay ?_;obtain ⟨rp,rq,a⟩:=Qb a;refine Yx 9 rfl (Qh (.string rp) ts9 rfl (Yl 1 rfl) (vp (k:=1) rfl rfl (Vg (rr s)) rq).1) ay<|Qv 10 rfl (Qd (Gi cp.2) rfl) ay ?_;obtain ⟨fe,ha,a⟩:=Qb a;obtain ⟨⟨_,_⟩,rs,ha⟩:=Ar.1 ha;refine Qv 11 rfl ((ha ▸ Un (l:=none) (h:=(some cp.2)) Qu rfl evn (evs rfl) rs)) ay<|Qv 12 rfl (Q9 rfl) ay<|Qv 13 rfl (Qi Xd rfl) ay ?_;obtain ⟨rt,rx,a⟩:=Qm a;refine Qv 14 rfl (Zb Xb rfl rfl rt rx) ay ?_;obtain ⟨_,ff,a⟩:=Qb a;have ff:=Kk ff;obtain ⟨_,kc,a⟩:=Qb a;obtain ⟨_,ry,a⟩:=Qb a;obtain ⟨_,rz,a⟩:=Qb a;have Cw:=(Zw kc);refine w1 15 rfl (Z7 2 1 b s (V2 ff:rep kb [Value.string fe] fe) (Uz (rr s) (vu (k:=1) rfl rfl (Vg (rr s)) (Lf (vp (k:=1) rfl rfl (Vg (rr s)) kc) (V2 ff:rep kb [Value.string fe] fe)) ry)) rz ?_);intro _ _ dc kd _ b;have r0:=(kd Gf).trans aq;have r1:=(kd Gf).trans a4;refine ⟨nB,?_⟩;refine wd<|Qe<|Qt<|Yp [Gp y ab 29] [] Z2 b fun C0 b ke cd=>Qv 0 rfl (Qd _ cc) cd<|Qv 1 rfl (Qi Vf a9) cd<|Yx 2 rfl (Qh (Gi d.n) Z8 rfl (Yl 0 rfl) (Yy (rr q))) cd<|Qv 3 rfl (Qi Vf a9) cd<|Yx 4 rfl (Qh (Gi d.n) Z8 rfl (Yl 0 rfl) (Yy (rr q))) cd<|Qv 5 rfl (Qd (d7) rfl) cd<|Qv 10 rfl (Q9 rfl) cd<|Qv 11 rfl (Qi q02 rfl) cd ?_;obtain ⟨fg,r2,a⟩:=Qb a;refine w1 6 rfl (Yi (vs:=[Gi d.n,d7]) (rv:=(fun o u=>∃ c0,u= .tuple #[Gj c0,Gi fg.2]∧rep o c0 fg.1)) cb25 (Z4 rfl rfl) b (q2l b.agree rm r2) ?_);intro _ hb _ dd r3 b;obtain ⟨kf,r4,kg⟩:=r3;subst r4;replace t:=Zh (d6.1.trans dd.1) t;replace q:=Zf dd q;replace dc:=Zf dd dc;refine Yj b (ke.trans dd) fun fh=>Qv 7 rfl (Qd (.tuple #[Gj kf,Gi fg.2]) rfl) fh<|Qv 8 rfl (Q3 (v:= Gj kf) rfl rfl) fh<|Qv 9 rfl (Q3 (v:= Gi fg.2) rfl rfl) fh ?_;obtain ⟨r5,r6,a⟩:=Qm a;refine Qv 12 rfl (Zb q8f rfl rfl r5 r6) fh ?_;obtain ⟨_,kh,a⟩:=Qb a;obtain ⟨_,r7,a⟩:=Qb a;obtain ⟨_,r8,a⟩:=Qb a;have C6:=(Zw kh);refine w1 13 rfl (Z7 2 201 b dc kg (Uy (rr dc) (vu (k:=201) rfl rfl (V7 (rr dc)) (Lf (vp (k:=201) rfl rfl (V7 (rr dc)) kh) kg) r7)) r8 ?_);intro _ _ fi ki _ b;have r9:=(ki Gf).trans r0;have sa:=(ki Gf).trans r1;refine Yj b (ke.trans dd) fun Eq=>wd<|Qe<|Yp [Gp y ab 29] [] Z2 b fun Fa b sb de=>Qv 0 rfl (Qd _ cc) de<|Qv 1 rfl (Qi Vf a9) de<|Yx 2 rfl (Qh (Gi d.n) Z8 rfl (Yl 0 rfl) (Yy (rr q))) de<|Qv 3 rfl (Q9 rfl) de<|Qv 4 rfl (Qi q03 rfl) de ?_;obtain ⟨sc,sd,a⟩:=Qm a;refine Qv 5 rfl (Zb J7 rfl rfl sc sd) de ?_;obtain ⟨_,kj,a⟩:=Qb a;obtain ⟨_,se,a⟩:=Qb a;obtain ⟨sf,sg,a⟩:=Qb a;have Fe:=(Zw kj);refine w1 6 rfl (Z7 2 1 b fi (rb false:rep hb _ _) (GRefCluster.u2 (rr fi) (vu (k:=1) rfl rfl (Kl (rr fi)) (Lf (vp (k:=1) rfl rfl (Kl (rr fi)) kj) (rb false:rep hb _ _)) se)) sg ?_);intro sh _ si kk _ b;have sj:=(kk Gf).trans r9;have sk:=(kk Gf).trans sa;refine Yj b sb fun Fh=>wd<|Q8<|Qe ?_;exact ⟨hb,sh,sf,f,g,l3,p,(d6.trans dd),b,si,t,sj,sk,da,d2,a⟩;refine Qk<|Q8<|Qe ?_;exact ⟨br,af,bn,f,g,l3,p,(Qc _ _ _),b,s,t,aq,a4,da,d2,a⟩;rintro _ _ ⟨d3,cn,g8,db,d4,g9,d5,kl,b,hc,hd,sm,sn,km,so,a⟩;rw [ql6] at a;refine Qy<|Zj so ?_;obtain ⟨sp,sq,a⟩:=Qb a;refine Ql (Ju rfl (Yi (vs:=[Gi 0]) (rv:=(fun o u=>∃ cs,u=Gj cs∧rep o cs sp)) q8k (Zm rfl) b (qjx b.agree sq)) ?_);intro _ sr _ fj ss b;obtain ⟨_,st,kn⟩:=ss;subst st;replace cb:=Zf (kl.trans fj) cb;replace hc:=Zf fj hc;replace hd:=Zh fj.1 hd;obtain ⟨_,su,a⟩:=Qb a;refine Ql<|Z3 0 3 b rfl cb km rfl kn rfl rfl (Lf (rr cb) kn) su fun sv Fo ko Fp Fq b=>Qj ?_;cases a;exact Q2 (J6 (j:=0) rfl km (V1 K0 ko) b rfl ⟨_,sr,_,rfl,(bq.trans (d1.trans (kl.trans fj))),(b.sel (H':=[Gp c cn 45,.stk db 62 24 d4,.row d5 9 1]) [2,3,4] Gg rfl),sv,cn,db,d4,d5,rfl,rfl,ko,hc,hd,sm,sn⟩);refine Qp (fun e w'=>∃ fk he,Mm.ext w.heap.size (qah [Gp c aa 45,.stk f 62 24 g,.row p 9 1]) a1 fk∧St w (qah [Gp c aa 45,.stk f 62 24 g,.row p 9 1]) fk [Gp b9 (Zr.zc GReply) 48,Gp y ab 29,Gp c af 45,.stk f 62 24 g,.row p 9 1] w'∧e 0=Gk c∧e 3=Gk y∧e 4=Gk b9∧e 5=evT (fun _=>undef) (.func 18)∧e 244= .bool he∧ql7 fu l3 d bn he=some r) ?_ ?_;refine Qy<|Qa (Ya g4 rfl)<|Qa (Qf (.bool (d.kind==2)) rfl)<|Qj ?_;refine Q6 a rfl (fun sw a=>?_) fun sw a=>?_;refine Qk<|Qe ?_;exact ⟨a1,(d.kind==2),(Qc _ _ _),b,b6,a5,b8,ca,rfl,a⟩;refine Qy<|Qa (Ya g4 rfl)<|Qa (Qf (.bool (d.kind==3)) rfl)<|Qj ?_;refine Q6 a rfl (fun sx a=>?_) fun sx a=>?_;refine Qk<|Qe ?_;exact ⟨a1,(d.kind==3),(Qc _ _ _),b,b6,a5,b8,ca,rfl,a⟩;refine Q1<|Qa (Ya g4 rfl)<|Qa (Qf (.bool (d.kind==4)) rfl)<|Qj ?_;exact ⟨a1,(d.kind==4),(Qc _ _ _),b,b6,a5,b8,ca,rfl,a⟩;rintro _ _ ⟨fk,he,d9,b,sy,sz,hf,kp,s0,a⟩;replace t:=Zh d9.1 t;replace z:=Zf d9 z;replace s:=Zf d9 s;rw [ql7] at a;refine Q6 a s0 (fun s1 a=>?_) fun s1 a=>?_;refine Qk<|Q8<|Qe ?_;exact ⟨fk,(Zr.zc GReply),(Zr.zd:GReply),af,bn,f,g,l3,p,(bq.trans d9),b,z,s,t,aq,a4,sy,sz,hf,kp,a⟩;refine Qy<|Zj kp ?_;obtain ⟨s2,s3,a⟩:=Qb a;refine Ql (Ju rfl (Yi (vs:=[Gi 3]) (rv:=(fun o u=>∃ cs,u=Gj cs∧rep o cs s2)) q8k (Zm rfl) b (qjx b.agree s3)) ?_);intro _ s4 _ fl s5 b;obtain ⟨_,s6,kq⟩:=s5;subst s6;replace t:=Zh fl.1 t;replace z:=Zf fl z;replace s:=Zf fl s;obtain ⟨_,s7,a⟩:=Qb a;refine Ql<|Z3 0 3 b rfl z hf rfl kq rfl rfl (Lf (rr z) kq) s7 fun s8 Fy kr Fz F0 b=>Qj ?_;cases a;exact Q2 (J6 (j:=0) rfl hf (V1 K0 kr) b rfl ⟨_,s4,_,rfl,(bq.trans (d9.trans fl)),(b.sel (H':=[Gp c af 45,.stk f 62 24 g,.row p 9 1]) [2,3,4] Gg rfl),s8,af,f,g,p,rfl,rfl,kr,s,t,aq,a4⟩);rintro _ _ ⟨bj,dq,dr,a8,b1,au,az,b2,a0,cq,b,cr,ao,a2,hg,bk,hh,fm,ks,kt,a⟩;replace q:=Zf cq q;rw [qwr] at a;refine Qp (fun e w'=>∃ fn ce df,Mm.ext w.heap.size (qah [Gp c aa 45,.stk f 62 24 g,.row p 9 1]) bj fn∧St w (qah [Gp c aa 45,.stk f 62 24 g,.row p 9 1]) fn [Gp b9 ce 48,Gp y ab 29,Gp c a8 45,.stk au 62 24 az,.row a0 9 1] w'∧rep fn ce df∧e 0=Gk c∧e 3=Gk y∧e 4=Gk b9∧e 5=evT (fun _=>undef) (.func 18)∧qwq fu d b1 b2 df=some r) ?_ ?_;refine Qp (fun e w'=>∃ fo hi,Mm.ext w.heap.size (qah [Gp c aa 45,.stk f 62 24 g,.row p 9 1]) bj fo∧St w (qah [Gp c aa 45,.stk f 62 24 g,.row p 9 1]) fo [Gp b9 dq 48,Gp y ab 29,Gp c a8 45,.stk au 62 24 az,.row a0 9 1] w'∧e 0=Gk c∧e 3=Gk y∧e 4=Gk b9∧e 5=evT (fun _=>undef) (.func 18)∧e 260= .bool hi∧qs6 fu d dr b1 b2 hi=some r) ?_ ?_;refine Yp [Gp y ab 29,Gp c a8 45] [] Z2 b fun F3 b F4 ak=>Qv 0 rfl (Qi Vf fm) ak<|Yx 1 rfl (Qh (Gi d.n) Z8 rfl (Yl 0 rfl) (Yy (rr q))) ak<|Qv 2 rfl (Zt rfl rfl) ak<|Qv 3 rfl (Qd (.bool (decide (d.n<0))) rfl) ak ?_;rcases ic a with ⟨ku,a⟩ | ⟨ku,a⟩<;>rw [ku];refine Vn 4 (j:=3) rfl rfl rfl rfl (fun _=>ak)<|Vn 5 (j:=3) rfl rfl rfl rfl (fun _=>ak)<|Vn 6 (j:=3) rfl rfl rfl rfl (fun _=>ak)<|Vn 7 (j:=3) rfl rfl rfl rfl (fun _=>ak)<|Vn 8 (j:=3) rfl rfl rfl rfl (fun _=>ak)<|Vn 9 (j:=3) rfl rfl rfl rfl (fun _=>ak)<|Vn 10 (j:=3) rfl rfl rfl rfl (fun _=>ak)<|Vn 11 (j:=3) rfl rfl rfl rfl (fun _=>ak)<|Qv 12 rfl (Zn (.bool true) rfl rfl) ak<|wd<|Qe ?_;exact ⟨bj,true,(Qc _ _ _),b,hh,fm,ks,kt,rfl,a⟩;refine Km 4 rfl rfl rfl (Qi Vf fm) (fun _=>ak)<|Jz 5 rfl rfl rfl (Qh (Gi d.n) Z8 rfl (Yl 0 rfl) (Yy (rr q))) ak<|Km 6 rfl rfl rfl (Qd _ hh) (fun _=>ak)<|Km 7 rfl rfl rfl (Q9 rfl) (fun _=>ak)<|Km 8 rfl rfl rfl (Qi Ux rfl) (fun _=>ak) ?_;obtain ⟨_,s9,kv⟩:=(Vv (rr ao));rw [Y6 s9 bk] at kv;refine Jz 9 rfl rfl rfl (Qh a0 X3 rfl (Yl 1 rfl) bk) ak ?_;obtain ⟨_,_,ta,_⟩:=Q0 kv;refine Km 10 rfl rfl rfl (Zo Y4 (Vz ta rfl)) (fun _=>ak)<|Km 11 rfl rfl rfl (V5 rfl rfl) (fun _=>ak)<|Qv 12 rfl (Q7 (.bool (decide (d.n≥(b1.net.length:Int)))) rfl rfl) ak<|wd<|Qe ?_;exact ⟨bj,(decide (d.n≥(b1.net.length:Int))),(Qc _ _ _),b,hh,fm,ks,kt,rfl,a⟩;rintro _ _ ⟨fo,hi,ea,b,tb,tc,hj,kw,td,a⟩;replace cr:=Zf ea cr;replace ao:=Zf ea ao;replace a2:=Zh ea.1 a2;rw [qs6] at a;refine Q6 a td (fun te a=>?_) fun te a=>?_;refine Qy<|Zj kw ?_;obtain ⟨tf,tg,a⟩:=Qb a;refine Ql (Ju rfl (Yi (vs:=[Gi 4]) (rv:=(fun o u=>∃ cs,u=Gj cs∧rep o cs tf)) q8k (Zm rfl) b (qjx b.agree tg)) ?_);intro _ th _ fp ti b;obtain ⟨_,tj,kx⟩:=ti;subst tj;replace cr:=Zf fp cr;replace ao:=Zf fp ao;replace a2:=Zh fp.1 a2;obtain ⟨_,tk,a⟩:=Qb a;refine Ql<|Z3 0 3 b rfl cr hj rfl kx rfl rfl (Lf (rr cr) kx) tk fun tl Gj ky Gk Gl b=>Qj ?_;cases a;exact Q2 (J6 (j:=0) rfl hj (V1 K0 ky) b rfl ⟨_,th,_,rfl,(cq.trans (ea.trans fp)),(b.sel (H':=[Gp c a8 45,.stk au 62 24 az,.row a0 9 1]) [2,3,4] Gg rfl),tl,a8,au,az,a0,rfl,rfl,ky,ao,a2,hg,bk⟩);refine Qk<|Qe ?_;exact ⟨fo,dq,dr,ea,b,cr,tb,tc,hj,kw,a⟩;rintro _ _ ⟨fn,ce,df,cf,b,ar,dg,dh,kz,k1,a⟩;replace q:=Zf cf q;replace ao:=Zf cf ao;rw [qwq] at a;refine Qt<|Uc Z2 Gh b<|Yo (Qd _ dg)<|Yo (Q9 rfl)<|Yo (Qi Ux rfl) ?_;obtain ⟨_,tm,k2⟩:=(Vv (rr ao));rw [Y6 tm bk] at k2;refine Yo (Qh a0 X3 rfl (q77 (j:=2) rfl) bk)<|Yo (Qi Vf dh)<|Yo (Qh (Gi d.n) Z8 rfl (q77 (j:=1) rfl) (Yy (rr q))) ?_;obtain ⟨bu,_,_,_,_,tn,tp,tq,tr,ts,a⟩:=Yc 1 k2 a;refine Yo (Yr zb5 rfl tn rfl tp tq)<|Yo (Qh (.string bu) ts9 rfl (ze8 tr) ts.1)<|Yo (Qf (.string bu) rfl)<|Ur ?_;intro _ b;refine Qe<|Qy<|Qa (Qd (.string bu) rfl) ?_;obtain ⟨eb,tt,a⟩:=Qb a;refine Ql (Yi (vs:=[.string bu]) (rv:=(fun o u=>∃ c0,u= .tuple #[Gj c0,Gi eb.2]∧rep o c0 eb.1)) cb26 (Zm rfl) b (qpq b.agree tt) ?_);intro _ hk _ bv tu b;obtain ⟨k3,tv,k4⟩:=tu;subst tv;replace q:=Zf bv q;replace ao:=Zf bv ao;replace a2:=Zh (cf.1.trans bv.1) a2;replace ar:=Zf bv ar;refine Qa (Qd (.tuple #[Gj k3,Gi eb.2]) rfl)<|Qa (Q3 (v:= Gj k3) rfl rfl)<|Qa (Q3 (v:= Gi eb.2) rfl rfl) ?_;refine Ql (Zl q7l b ?_);intro a6 _ _ b;have k5:rep hk (Zr.zc GFrame) (Zr.zd:GFrame):=Zr.zr;obtain ⟨ad,tw,a⟩:=Qb a;refine Ql (Z7 0 7 b k5 k4 (Lf (rr k5) k4) tw ?_);intro ba _ al _ _ b;refine Qa (Qf (Gi eb.2) rfl)<|Qj ?_;refine Qp (fun e w'=>∃ a3 bl ec cg,Mm.ext w.heap.size (qah [Gp c aa 45,.stk f 62 24 g,.row p 9 1]) hk a3∧St w (qah [Gp c aa 45,.stk f 62 24 g,.row p 9 1]) a3 [Gp a6 ba 82,Gp b9 ce 48,Gp y ab 29,Gp c bl 45,.stk au 62 24 az,.row cg 9 1] w'∧rep a3 bl ec∧sl bl (0+1224) 1=[au]∧sl bl (0+1225) 1=[cg]∧e 0=Gk c∧e 3=Gk y∧e 4=Gk b9∧e 5=evT (fun _=>undef) (.func 18)∧e 13= .string bu∧e 14=Gk a6∧qs5 fu d b2 df bu ad ec=some r) ?_ ?_;refine Qy<|Qa (Qi J4 dh)<|Qa (Qh (Gi d.kind) Z8 rfl (b.bvB 2 rfl) (Jc (rr q)))<|Qa (Ym rfl rfl)<|Qj ?_;refine Q6 a rfl (fun tx a=>?_) fun tx a=>?_;refine Yp [Gp y ab 29,Gp c a8 45] [20] Z2 b fun G1 b k6 aw=>Qv 0 rfl (Qd _ dg) aw<|Qv 1 rfl (Qd _ dg) aw<|Qv 2 rfl (Q9 rfl) aw<|Qv 3 rfl (Qi Ux rfl) aw ?_;obtain ⟨_,ty,hl⟩:=(Vv (rr ao));rw [Y6 ty bk] at hl;refine Yx 4 rfl (Qh a0 X3 rfl (Yl 1 rfl) bk) aw<|Qv 5 rfl (Qi Vf dh) aw<|Yx 6 rfl (Qh (Gi d.n) Z8 rfl (Yl 0 rfl) (Yy (rr q))) aw ?_;obtain ⟨tz,hm,a⟩:=Qb a;obtain ⟨⟨t0,t1⟩,k7,hm⟩:=Ar.1 hm;obtain ⟨_,_,t2,t3⟩:=Q0 hl;have t4:repL _ (qo2 a0 1 t0 t1) tz:=hm ▸ qy7 hl k7;refine Qv 7 rfl (qxi (l:=none) (h:=(some d.n)) zb5 rfl t2 evn (evs rfl) k7 t3) aw<|Qv 9 rfl (Qd _ dg) aw<|Qv 10 rfl (Q9 rfl) aw<|Qv 11 rfl (Qi Ux rfl) aw ?_;obtain ⟨_,t5,hn⟩:=(Vv (rr ao));rw [Y6 t5 bk] at hn;refine Yx 12 rfl (Qh a0 X3 rfl (Yl 1 rfl) bk) aw<|Qv 13 rfl (Qi Vf dh) aw<|Yx 14 rfl (Qh (Gi d.n) Z8 rfl (Yl 0 rfl) (Yy (rr q))) aw<|Qv 15 rfl (Zu rfl rfl) aw ?_;obtain ⟨t6,ho,a⟩:=Qb a;obtain ⟨⟨t7,t8⟩,k8,ho⟩:=Ar.1 ho;obtain ⟨_,_,t9,ua⟩:=Q0 hn;have hp:repL _ (qo2 a0 1 t7 t8) t6:=ho ▸ qy7 hn k8;refine Qv 16 rfl (qxi (l:=(some (Gr (d.n+1)))) (h:=none) zb5 rfl t9 (evs rfl) evn k8 ua) aw ?_;replace b:=b.nilRow 9 1;obtain ⟨_,ub,uc,a⟩:=Z5 a;refine w1 8 rfl (Yv (α := ByteArray) (j:=0) zaz b rfl rfl rfl (Zv _) t4 ub ?_);intro _ _ _ ed k9 b;rw [← uc] at k9;replace hp:=Qo ed.1 hp;refine Yj b (k6.trans ed) fun Hc=>?_;obtain ⟨_,ud,ue,a⟩:=Z5 a;refine w1 17 rfl (Yv (α := ByteArray) (j:=0) zaz b rfl rfl rfl k9 hp ud ?_);intro la uf _ hq fq b;rw [← ue] at fq;replace ao:=Zf (ed.trans hq) ao;refine Yj b (k6.trans (ed.trans hq)) fun lb=>Qv 18 rfl (Q9 rfl) lb<|Qv 19 rfl (Qi Ux rfl) lb ?_;obtain ⟨ug,uh,a⟩:=Qb a;refine w1 20 rfl (Z3 4 1 b rfl ao rfl rfl (Qq fq) (Q4 fq) rfl (GRefCluster.u5 (rr ao) (Lf (Vv (rr ao)) (Qq fq))) uh ?_);intro lc _ ui uj uk b;have ul:=(uj Gf).trans hg;have um:=uk;refine ⟨nB,?_⟩;refine wd<|Qe ?_;exact ⟨uf,lc,ug,la,(ed.trans hq),(b.sel (H':=[Gp a6 ba 82,Gp b9 ce 48,Gp y ab 29,Gp c lc 45,.stk au 62 24 az,.row la 9 1]) [1,2,3,4,5,0] Gg rfl),ui,ul,um,dg,dh,kz,k1,rfl,rfl,a⟩;refine Qk<|Qe ?_;exact ⟨hk,a8,b1,a0,(Qc _ _ _),b,ao,hg,bk,dg,dh,kz,k1,rfl,rfl,a⟩;rintro _ _ ⟨a3,bl,ec,cg,bw,b,ee,hr,hs,ld,uo,fr,lf,lg,ef,a⟩;replace q:=Zf bw q;replace a2:=Zh bw.1 a2;replace ar:=Zf bw ar;replace al:=Zf bw al;rw [qs5] at a;refine Qt<|Qy<|Qa (Qi J4 uo)<|Qa (Qh (Gi d.kind) Z8 rfl (b.bvB 2 rfl) (Jc (rr q)))<|Qa (Ya rfl rfl)<|Qj ?_;refine Q6 a rfl (fun up a=>?_) fun up a=>?_;refine Qy<|Qa (Qi Yz ef)<|Qa (Qh (Gi ad.id) Z8 rfl (b.bvB 0 rfl) (Z6 (rr al))) ?_;have uq:=Jk (Zr.zr:rep a3 (Zr.zc GReply) (Zr.zd:GReply)) (ri ad.id:rep a3 _ _);obtain ⟨ur,us,a⟩:=Qb a;obtain ⟨_,ut,lh⟩:∃ cs,qa1 (([(0,1),(1,1),(2,1)]:List (Nat × Nat))[·]?) (Zr.zc GReply) [(1,Gi ad.id)]=some cs∧rep a3 cs ur:=⟨_,(Zg (Zr.zr:rep a3 (Zr.zc GReply) (Zr.zd:GReply)) rfl rfl (X5 (ri ad.id:rep a3 _ _)) Gg Yd),Ye (x:=({ code:=Zr.zd,n:=ad.id,values:=Zr.zd }:GReply)) uq us⟩;refine Qa (Z0 [(1,Gi ad.id)] Up (Y5 rfl Vq) ut) ?_;obtain ⟨_,uu,a⟩:=Qb a;refine Ql<|Z3 1 3 b rfl ar fr rfl lh rfl rfl (Lf (rr ar) lh) uu fun uv Hk li Hl Hm b=>Qj ?_;cases a;exact Q2 (J6 (j:=1) rfl fr (V1 K0 li) b rfl ⟨_,a3,_,rfl,(cq.trans (cf.trans (bv.trans bw))),(b.sel (H':=[Gp c bl 45,.stk au 62 24 az,.row cg 9 1]) [3,4,5] Gg rfl),uv,bl,au,az,cg,rfl,rfl,li,ee,a2,hr,hs⟩);refine Qk<|Qe ?_;refine Qp (fun e w'=>∃ ch eg ht bh fs bb bc ft ct,Mm.ext w.heap.size (qah [Gp c aa 45,.stk f 62 24 g,.row p 9 1]) a3 ch∧St w (qah [Gp c aa 45,.stk f 62 24 g,.row p 9 1]) ch [Gp a6 ba 82,Gp b9 eg 48,Gp y ab 29,Gp c bh 45,.stk bb 62 24 bc,.row ct 9 1] w'∧rep ch eg ht∧rep ch bh fs∧skr ch bb bc ft∧sl bh (0+1224) 1=[bb]∧sl bh (0+1225) 1=[ct]∧e 0=Gk c∧e 4=Gk b9∧e 5=evT (fun _=>undef) (.func 18)∧e 14=Gk a6∧q0j fu ad ht fs ft=some r) ?_ ?_;refine Qp (fun e w'=>∃ fv hu,Mm.ext w.heap.size (qah [Gp c aa 45,.stk f 62 24 g,.row p 9 1]) a3 fv∧St w (qah [Gp c aa 45,.stk f 62 24 g,.row p 9 1]) fv [Gp a6 ba 82,Gp b9 ce 48,Gp y ab 29,Gp c bl 45,.stk au 62 24 az,.row cg 9 1] w'∧e 0=Gk c∧e 4=Gk b9∧e 5=evT (fun _=>undef) (.func 18)∧e 13= .string bu∧e 14=Gk a6∧e 312= .bool hu∧qn5 fu b2 df bu ad ec hu=some r) ?_ ?_;refine Q1<|Qa (Qi Vk ef)<|Qa (Qh (Gi ad.kind) Z8 rfl (b.bvB 0 rfl) (Yh (rr al)))<|Qa (Ya rfl rfl)<|Qa (Qd (.bool (ad.kind==1)) rfl) ?_;rcases ic a with ⟨lj,a⟩ | ⟨lj,a⟩<;>rw [lj];refine Qw 4 rfl<|Qj ?_;exact ⟨a3,true,(Qc _ _ _),b,ld,fr,lf,lg,ef,rfl,a⟩;refine Qg rfl rfl (Qi Vk ef)<|Qg rfl rfl (Qh (Gi ad.kind) Z8 rfl (b.bvB 0 rfl) (Yh (rr al)))<|Qg rfl rfl (Ya rfl rfl)<|Qa (Q7 (.bool (ad.kind==3)) rfl rfl)<|Qj ?_;exact ⟨a3,(ad.kind==3),(Qc _ _ _),b,ld,fr,lf,lg,ef,rfl,a⟩;rintro _ _ ⟨fv,hu,cu,b,lk,eh,ll,uw,hv,ux,a⟩;replace a2:=Zh cu.1 a2;replace ar:=Zf cu ar;replace al:=Zf cu al;replace ee:=Zf cu ee;rw [qn5] at a;refine Q6 a ux (fun uy a=>?_) fun uy a=>?_;refine Qt<|Qy<|Zj lk ?_;have lm:=(rr al);refine Qa (Za Jl hv (b.bvB 0 rfl) (X5 lm))<|Zj uw ?_;obtain ⟨cv,uz,a⟩:=Qb a;refine Ql (Yg (vs:=[Gk c,Gj (sl ba (0) 7),.string bu]) (L:=[Gp c bl 45,.stk au 62 24 az,.row cg 9 1]) (R:=[Gp a6 ba 82,Gp b9 ce 48,Gp y ab 29]) (rv:=(fun o u L'=>∃ k0 u1 x1 u2,u=Gi cv.1∧L'=[Gp c k0 45,.stk u1 62 24 x1,.row u2 9 1]∧rep o k0 cv.2.1∧skr o u1 x1 cv.2.2∧sl k0 1224 1=[u1]∧sl k0 1225 1=[u2])) cb27 (Js rfl rfl rfl) b (b.sel [3,4,5,0,1,2] Gg rfl) (fun b=>q4q b ee a2 hr hs lm uz) ?_);rintro _ di _ _ fw ⟨fx,fy,fz,f0,rfl,u0,f1,f2,ln,lo⟩ b;replace b:=b _ u0;replace ar:=Zf fw ar;replace al:=Zf fw al;refine Qa (Qf (Gi cv.1) rfl)<|Qj<|Qy<|Qa (Qd (Gi cv.1) rfl)<|Qa (Ym rfl rfl)<|Qj ?_;refine Q6 a rfl (fun u7 a=>?_) fun u7 a=>?_;refine Qy<|Zj ll<|Qa (Qd (Gi cv.1) rfl) ?_;obtain ⟨u8,u9,a⟩:=Qb a;refine Ql (Ju rfl (Yi (vs:=[Gi cv.1]) (rv:=(fun o u=>∃ cs,u=Gj cs∧rep o cs u8)) q8k (Zm rfl) b (qjx b.agree u9)) ?_);intro _ va _ f3 vb b;obtain ⟨_,vc,lp⟩:=vb;subst vc;replace ar:=Zf f3 ar;replace f1:=Zf f3 f1;replace f2:=Zh f3.1 f2;obtain ⟨_,vd,a⟩:=Qb a;refine Ql<|Z3 4 3 b rfl ar eh rfl lp rfl rfl (Lf (rr ar) lp) vd fun ve Hw lq Hx Hy b=>Qj ?_;cases a;exact Q2 (J6 (j:=4) rfl eh (V1 K0 lq) b rfl ⟨_,va,_,rfl,(cq.trans (cf.trans (bv.trans (bw.trans (cu.trans (fw.trans f3)))))),(b.sel (H':=[Gp c fx 45,.stk fy 62 24 fz,.row f0 9 1]) [0,1,2] Gg rfl),ve,fx,fy,fz,f0,rfl,rfl,lq,f1,f2,ln,lo⟩);refine Qk<|Qe<|Qy<|Qa (Qi Yz hv)<|Qa (Qh (Gi ad.id) Z8 rfl (b.bvB 3 rfl) (Z6 (rr al))) ?_;have vf:=Jk (Zr.zr:rep di (Zr.zc GReply) (Zr.zd:GReply)) (ri ad.id:rep di _ _);obtain ⟨vg,vh,a⟩:=Qb a;obtain ⟨_,vi,lr⟩:∃ cs,qa1 (([(0,1),(1,1),(2,1)]:List (Nat × Nat))[·]?) (Zr.zc GReply) [(1,Gi ad.id)]=some cs∧rep di cs vg:=⟨_,(Zg (Zr.zr:rep di (Zr.zc GReply) (Zr.zd:GReply)) rfl rfl (X5 (ri ad.id:rep di _ _)) Gg Yd),Ye (x:=({ code:=Zr.zd,n:=ad.id,values:=Zr.zd }:GReply)) vf vh⟩;refine Qa (Z0 [(1,Gi ad.id)] Up (Y5 rfl Vq) vi) ?_;obtain ⟨_,vj,a⟩:=Qb a;refine Ql<|Z3 4 3 b rfl ar eh rfl lr rfl rfl (Lf (rr ar) lr) vj fun vk H1 ls H2 H3 b=>Qj ?_;cases a;exact Q2 (J6 (j:=4) rfl eh (V1 K0 ls) b rfl ⟨_,di,_,rfl,(cq.trans (cf.trans (bv.trans (bw.trans (cu.trans fw))))),(b.sel (H':=[Gp c fx 45,.stk fy 62 24 fz,.row f0 9 1]) [0,1,2] Gg rfl),vk,fx,fy,fz,f0,rfl,rfl,ls,f1,f2,ln,lo⟩);refine Qk<|Qe ?_;exact ⟨fv,ce,df,bl,ec,au,az,b2,cg,cu,b,ar,ee,a2,hr,hs,lk,eh,ll,hv,a⟩;rintro _ _ ⟨ch,eg,ht,bh,fs,bb,bc,ft,ct,hw,b,bm,dj,ci,f4,lu,hx,lv,lw,ei,a⟩;replace al:=Zf hw al;rw [q0j] at a;refine Qp (fun e w'=>∃ ej dk dl hy f5 h0 f6,Mm.ext w.heap.size (qah [Gp c aa 45,.stk f 62 24 g,.row p 9 1]) ch ej∧St w (qah [Gp c aa 45,.stk f 62 24 g,.row p 9 1]) ej [Gp dk dl 62,Gp a6 ba 82,Gp b9 eg 48,Gp y ab 29,Gp c bh 45,.stk bb 62 24 bc,.row ct 9 1] w'∧rep ej dl hy∧w.heap.size≤dk∧repL ej f5 h0∧e 17=Gk dk∧e 0=Gk c∧e 4=Gk b9∧e 5=evT (fun _=>undef) (.func 18)∧e 14=Gk a6∧e 18=f5∧e 19=Gi f6∧q0i fu ad fs ft hy h0 f6=some r) ?_ ?_;refine Yp [Gp a6 ba 82,Gp c bh 45,.stk bb 62 24 bc] [] Z2 b fun H6 b dm bi=>Qv 0 rfl (Qd _ hx) bi<|Qv 1 rfl (Q9 rfl) bi<|Qv 2 rfl (Qi Ua rfl) bi<|Yx 3 rfl (Qh bb q8g rfl (Yl 1 rfl) f4) bi<|Qv 4 rfl (Qi Yz ei) bi<|Yx 5 rfl (Qh (Gi ad.id) Z8 rfl (Yl 0 rfl) (Z6 (rr al))) bi ?_;obtain ⟨vl,vm,a⟩:=Qb a;obtain ⟨_,h1,_,vn,vo,vq,vr,h2⟩:=Ui (b.skv (j:=4) rfl ci) vm;replace h2:rep _ (sl bc (h1+Int.toNat ad.id*24) 24) vl:=h2;refine Qv 6 rfl (Yr zfp rfl vn rfl vo vq) bi ?_;have h3:=h2;refine Yx 7 rfl (Za Y8 rfl (zjn 2 rfl vr) (X5 h3)) bi<|Qv 8 rfl (Qi Yz ei) bi<|Yx 9 rfl (Qh (Gi ad.id) Z8 rfl (Yl 0 rfl) (Z6 (rr al))) bi ?_;have h4:=(rr al);refine Yx 10 rfl (Za Jl ei (Yl 0 rfl) (X5 h4)) bi ?_;obtain ⟨ax,lx,a⟩:=Qb a;obtain ⟨ly,lz,a⟩:=Qb a;refine Ue (i:=11) (j:=16) Gh rfl rfl (Yi (vs:=[Gj (sl bc (h1+Int.toNat ad.id*24) 24),Gi ad.id,Gj (sl ba (0) 7)]) (rv:=(fun o u=>∃ c0 v1,u= .tuple #[Gj c0,v1,Gi ax.2.2]∧rep o c0 ax.1∧repL o v1 ax.2.1)) cb28 (Js rfl rfl rfl) b (qr3 b.agree h3 h4 lx) ?_) (Zl U7 b ?_);intro vt f7 vv bx h5 b;obtain ⟨ek,bz,h6,el,h7⟩:=h5;subst h6;refine Yj b (dm.trans bx) fun f8=>Qv 12 rfl (Qd (.tuple #[Gj ek,bz,Gi ax.2.2]) rfl) f8<|Qv 13 rfl (Q3 (v:= Gj ek) rfl rfl) f8<|Qv 14 rfl (Q3 (v:=bz) rfl rfl) f8<|Qv 15 rfl (Q3 (v:= Gi ax.2.2) rfl rfl) f8 ?_;refine w1 16 rfl (Zl U7 b ?_);intro h8 vw h9 b;have cw:rep f7 (Zr.zc GCase) (Zr.zd:GCase):=Zr.zr;refine Yj b (dm.trans bx) fun H9=>?_;refine w1 17 rfl (Z7 0 24 b cw el (Lf (rr cw) el) lz ?_);intro ia vx ib vy vz b;refine Yj b (dm.trans bx) fun l0=>Qv 18 rfl (Qf (bz) rfl) l0<|Qv 19 rfl (Qf (Gi ax.2.2) rfl) l0<|wd<|Qe ?_;exact ⟨f7,h8,ia,ly,bz,ax.2.1,ax.2.2,bx,b,ib,h9,h7,rfl,hx,lv,lw,ei,rfl,rfl,a⟩;intro h8 vw h9 b;have cw:rep ch (Zr.zc GCase) (Zr.zd:GCase):=Zr.zr;refine Yj b dm fun Ia=>?_;refine w1 11 rfl (Yi (vs:=[Gj (sl bc (h1+Int.toNat ad.id*24) 24),Gi ad.id,Gj (sl ba (0) 7)]) (rv:=(fun o u=>∃ c0 v1,u= .tuple #[Gj c0,v1,Gi ax.2.2]∧rep o c0 ax.1∧repL o v1 ax.2.1)) cb28 (Js rfl rfl rfl) b (qr3 b.agree h3 h4 lx) ?_);intro vt f7 vv bx h5 b;obtain ⟨ek,bz,h6,el,h7⟩:=h5;subst h6;replace cw:=Zf bx cw;refine Yj b (dm.trans bx) fun ga=>Qv 12 rfl (Qd (.tuple #[Gj ek,bz,Gi ax.2.2]) rfl) ga<|Qv 13 rfl (Q3 (v:= Gj ek) rfl rfl) ga<|Qv 14 rfl (Q3 (v:=bz) rfl rfl) ga<|Qv 15 rfl (Q3 (v:= Gi ax.2.2) rfl rfl) ga ?_;refine w1 17 rfl (Z7 0 24 b cw el (Lf (rr cw) el) lz ?_);intro ia vx ib vy vz b;refine Yj b (dm.trans bx) fun l1=>Qv 18 rfl (Qf (bz) rfl) l1<|Qv 19 rfl (Qf (Gi ax.2.2) rfl) l1<|wd<|Qe ?_;exact ⟨f7,h8,ia,ly,bz,ax.2.1,ax.2.2,bx,b,ib,h9,h7,rfl,hx,lv,lw,ei,rfl,rfl,a⟩;rintro _ _ ⟨ej,dk,dl,hy,f5,h0,f6,dn,b,gb,_,v2,l2,l4,gc,v3,l5,v4,l6,a⟩;replace al:=Zf dn al;replace bm:=Zf dn bm;replace dj:=Zf dn dj;replace ci:=Zh dn.1 ci;rw [q0i] at a;refine Qt<|Qy<|Zj l6<|Qa (Ym rfl rfl)<|Qj ?_;refine Q6 a rfl (fun v5 a=>?_) fun v5 a=>?_;refine Qy<|Zj v3<|Zj l6 ?_;obtain ⟨v6,v7,a⟩:=Qb a;refine Ql (Ju rfl (Yi (vs:=[Gi f6]) (rv:=(fun o u=>∃ cs,u=Gj cs∧rep o cs v6)) q8k (Zm rfl) b (qjx b.agree v7)) ?_);intro _ v8 _ ge v9 b;obtain ⟨_,wa,l7⟩:=v9;subst wa;replace bm:=Zf ge bm;replace dj:=Zf ge dj;replace ci:=Zh ge.1 ci;obtain ⟨_,wb,a⟩:=Qb a;refine Ql<|Z3 2 3 b rfl bm gc rfl l7 rfl rfl (Lf (rr bm) l7) wb fun wc Ii l8 Ij Ik b=>Qj ?_;cases a;exact Q2 (J6 (j:=2) rfl gc (V1 K0 l8) b rfl ⟨_,v8,_,rfl,(cq.trans (cf.trans (bv.trans (bw.trans (hw.trans (dn.trans ge)))))),(b.sel (H':=[Gp c bh 45,.stk bb 62 24 bc,.row ct 9 1]) [4,5,6] Gg rfl),wc,bh,bb,bc,ct,rfl,rfl,l8,dj,ci,f4,lu⟩);refine Qk<|Qe<|Qt<|Yp [Gp dk dl 62,Gp a6 ba 82,Gp c bh 45,.stk bb 62 24 bc] [8] Z2 b fun Il b Im cj=>Qv 0 rfl (Qd _ l4) cj<|Qv 1 rfl (Q9 rfl) cj<|Qv 2 rfl (Qi Ua rfl) cj<|Yx 3 rfl (Qh bb q8g rfl (Yl 2 rfl) f4) cj<|Qv 4 rfl (Qi Yz l5) cj<|Yx 5 rfl (Qh (Gi ad.id) Z8 rfl (Yl 1 rfl) (Z6 (rr al))) cj ?_;have l9:=(rr gb);refine Yx 6 rfl (Za Y8 l2 (Yl 0 rfl) (X5 l9)) cj ?_;obtain ⟨we,wf,a⟩:=Qb a;obtain ⟨_,wg,_,ma,mb,mc,_,md⟩:=Ui (b.skv (j:=5) rfl ci) wf;replace md:rep _ (sl bc (wg+Int.toNat ad.id*24) 24) we:=md;refine Qv 7 rfl (Yr zfp rfl ma rfl mb mc) cj ?_;obtain ⟨_,wi,a⟩:=Qb a;refine w1 8 rfl (zjo 5 b rfl ci ma rfl rfl mb mc rfl l9 rfl Gh ?_);intro wj _ me b;rw [D1 wi] at me;refine ⟨nB,?_⟩;refine wd<|Qe<|Qy<|Zj l4<|Zj v4 ?_;obtain ⟨mf,wk,a⟩:=Qb a;refine Ql (Yg (vs:=[Gk c,f5]) (L:=[Gp c bh 45,.stk bb 62 24 wj,.row ct 9 1]) (R:=[Gp dk dl 62,Gp a6 ba 82,Gp b9 eg 48,Gp y ab 29]) (rv:=(fun o u L'=>∃ k0 u1 x1 u2,u= .tuple #[]∧L'=[Gp c k0 45,.stk u1 62 24 x1,.row u2 9 1]∧rep o k0 mf.1∧skr o u1 x1 mf.2∧sl k0 1224 1=[u1]∧sl k0 1225 1=[u2])) zhc (Z4 rfl rfl) b (b.sel [4,5,6,0,1,2,3] Gg rfl) (fun b=>qr6 b dj me f4 lu v2 wk) ?_);rintro _ _ _ _ gf ⟨mg,mh,mi,mj,rfl,wl,ie,ig,wm,wn⟩ b;replace b:=b _ wl;replace gb:=Zf gf gb;refine Qj<|Qy ?_;have mk:=(rr gb);refine Qa (Za Y8 l2 (b.bvB 3 rfl) (X5 mk)) ?_;obtain ⟨em,wo,a⟩:=Qb a;refine Ql (Yi (vs:=[Gj (sl dl (0) 24)]) (rv:=(fun o u=>∃ v0,u= .tuple #[v0,.bool em.2]∧repL o v0 em.1)) cb22 (Zm rfl) b (qva b.agree mk wo) ?_);intro _ dp _ en wp b;obtain ⟨eo,wq,ih⟩:=wp;subst wq;replace al:=Zf (gf.trans en) al;replace bm:=Zf (gf.trans en) bm;replace ie:=Zf en ie;replace ig:=Zh en.1 ig;refine Qa (Qd (.tuple #[eo,.bool em.2]) rfl)<|Qa (Q3 (v:=eo) rfl rfl)<|Qa (Q3 (v:= .bool em.2) rfl rfl)<|Qw 2 rfl<|Qj<|Qy<|Qa (Qi Yz l5)<|Qa (Qh (Gi ad.id) Z8 rfl (b.bvB 4 rfl) (Z6 (rr al)))<|Qa (Qd (eo) rfl) ?_;have ml:=Jk (Zr.zr:rep dp (Zr.zc GReply) (Zr.zd:GReply)) (ri ad.id:rep dp _ _);have wr:=GReply.w2 ml (Qq ih);obtain ⟨ws,wt,a⟩:=Qb a;obtain ⟨_,wu,mm⟩:∃ cs,qa1 (([(0,1),(1,1),(2,1)]:List (Nat × Nat))[·]?) (Zr.zc GReply) [(1,Gi ad.id),(2,eo)]=some cs∧rep dp cs ws:=⟨_,(Zg (Zr.zr:rep dp (Zr.zc GReply) (Zr.zd:GReply)) rfl rfl (X5 (ri ad.id:rep dp _ _)) Gg (Zg ml rfl (Q4 ih) (X5 (Qq ih)) Gg Yd)),Ye (x:=({ code:=Zr.zd,n:=ad.id,values:=em.1 }:GReply)) wr wt⟩;refine Qa (Z0 [(1,Gi ad.id),(2,eo)] Up (Y5 rfl (Y5 rfl Vq)) wu) ?_;obtain ⟨_,wv,a⟩:=Qb a;refine Ql<|Z3 5 3 b rfl bm gc rfl mm rfl rfl (Lf (rr bm) mm) wv fun ww I0 mn I1 I2 b=>Qj ?_;cases a;exact Q2 (J6 (j:=5) rfl gc (V1 K0 mn) b rfl ⟨_,dp,_,rfl,(cq.trans (cf.trans (bv.trans (bw.trans (hw.trans (dn.trans (gf.trans en))))))),(b.sel (H':=[Gp c mg 45,.stk mh 62 24 mi,.row mj 9 1]) [0,1,2] Gg rfl),ww,mg,mh,mi,mj,rfl,rfl,mn,ie,ig,wm,wn⟩)
theorem zbu (a b:Int):strOfNums [a]++strOfNums [b]=strOfNums [a,b]:=by
 rfl
theorem qt0 {fu:Nat} {log s:ByteArray} (hs:s.size≤140737488351232):qlb fu log s=some (qw1 log s,qdy log s):=by
 unfold qlb;by_cases h1:65536<log.size
 ·have hc:qdy log s=2:=by unfold qdy;rw [if_pos h1]
  rw [qae (qac Gf),qne hc Gg,hc]
 ·rw [qad (qab Gf),qk7];have hlen:=qg5 s;by_cases h2:s.size=0
  ·have hc:qdy log s=1:=by unfold qdy;rw [if_neg h1,if_pos (.inl h2)]
   have he:(byL s).isEmpty=true:=by rw [List.isEmpty_iff,List.eq_nil_iff_length_eq_zero];omega
   rw [he,cond_true,qfe,cond_true,qne hc Gg,hc]
  ·have he:(byL s).isEmpty=false:=by
    cases h:(byL s).isEmpty
    ·rfl
    ·rw [List.isEmpty_iff] at h;rw [h] at hlen;simp at hlen;omega
   rw [he,cond_false];by_cases h3:400<s.size
   ·have hc:qdy log s=1:=by unfold qdy;rw [if_neg h1,if_pos (.inr h3)]
    rw [qac Gf,qfe,cond_true,qne hc Gg,hc]
   ·rw [qab Gf,qfe,cond_false,ql4,qa3 Gf Gf];by_cases h4:65536<log.size+2+s.size
    ·have hc:qdy log s=5:=by unfold qdy;rw [if_neg h1,if_neg Gf,if_pos h4]
     rw [qae (qac Gf),qne hc Gg,hc]
    ·have hc:qdy log s=0:=by unfold qdy;rw [if_neg h1,if_neg Gf,if_neg h4]
     have hw:qw1 log s=qmn log s:=by unfold qw1;rw [if_pos hc]
     have e1:(Gr (Int.tdiv (s.size:Int) 256))%256=(s.size:Int) / 256:=by
      rw [Es Gf,qa3 Gf Gf];omega
     have e2:(Int.tmod (s.size:Int) 256)%256=(s.size:Int)%256:=by
      rw [Dd Gf];omega
     have z1:∀ x:Int,(strOfNums [x]).size=1:=fun _=>rfl;rw [qad (qab Gf),qaa,e1,e2,qxy (by rw [z1];omega),qaa,qaa,qxy (by rw [De,z1,z1];omega),qaa,qxy (by rw [De,De,z1,z1];omega),qaa,hc,hw,ByteArray.append_assoc (a:=log),zbu];rfl
theorem q4r {fu:Nat} {log s:ByteArray} {n:Int} (hs:s.size≤140737488351232) (hn : -1000000≤n∧n≤1000000):qr5 fu log s n=some (qw2 log s n):=by
 unfold qr5;rw [qt0 hs,qaa];rcases qt9 log s with ⟨h0,h1,h2,h3⟩ | ⟨h0,_⟩
 ·have hw:qw1 log s=qmn log s:=by unfold qw1;rw [if_pos h0]
  have hsz:=qn9 log s;unfold qw2;rw [h0,hw,if_pos rfl,qad (by rfl)];have hall:∀ k,(qmn log s).size≤k→(qmn log s).extract 0 k=qmn log s:=fun k hk=>by
   apply ByteArray.ext;apply Array.ext';rw [Go.Lib.extract_data];have:(qmn log s).data.toList.length=(qmn log s).size:=rfl;simp only [Bu,Nat.sub_zero];exact Dn Gf
  have hnone:(qmn log s).extract 0 log.size=log:=by
   unfold qmn;rw [ByteArray.append_assoc,ByteArray.extract_append_eq_left rfl]
  by_cases hn0:n≤0
  ·rw [qac hn0,qhc,cond_true];have:qi8 s n=0:=by
    unfold qi8;split
    ·rfl
    ·rw [if_neg Gf];omega
   rw [this,Dl,hnone]
  ·rw [qab hn0,qhc,cond_false];by_cases h402:n>402
   ·rw [qae (qac h402),qhb,cond_true];have:qi8 s n=s.size+2:=by
     unfold qi8;rw [if_neg Gf,if_pos Gf]
    rw [this,hall _ Gf]
   ·rw [qad (qab h402),qa3 Gf Gf];by_cases hbig:(log.size:Int)+n>((qmn log s).size:Int)
    ·rw [qac hbig,qhb,cond_true];have:qi8 s n=s.size+2:=by
      unfold qi8;rw [if_neg Gf,if_pos Gf]
     rw [this,hall _ Gf]
    ·rw [qab hbig,qhb,cond_false,qow,qa3 Gf Gf];unfold qs7 qhk;simp only [Am,Bp];rw [if_pos Gf];have:((log.size:Int)+n).toNat=log.size+qi8 s n:=by
      unfold qi8;rw [if_neg Gf,if_neg Gf];omega
     rw [this];rfl
 ·have hne:(qdy log s != 0)=true:=by simpa using h0
  unfold qw2;rw [if_neg h0,qae hne,qhc,cond_true]
theorem zab (a b:UInt8):Gr ((Gr (256*(Gr ((a.toNat:Nat):Int))))+(Gr ((b.toNat:Nat):Int)))=((qkd a b:Nat):Int):=by
 have h0:=a.toNat_lt;have h1:=b.toNat_lt;unfold qkd;rw [qa3 (x:=((a.toNat:Nat):Int)) Gf Gf,qa3 (x:=((b.toNat:Nat):Int)) Gf Gf,qa3 (x:=256*((a.toNat:Nat):Int)) Gf Gf,qa3 Gf Gf];omega
theorem qr9 {x:ByteArray} (hx:x.size≤65536):∀ (n m:Nat) (acc:List ByteArray) (s:ByteArray),s.size≤m→m<n→s.size≤x.size→acc.length+s.size≤100000→qdx x n acc s=some (acc++(qb5 s.data.toList).1,((x.size-s.size+(qb5 s.data.toList).2:Nat):Int))
 | 0,m,_,_,_,h,_,_=>absurd h Gf
 | n+1,m,acc,s,hm,hn,hsx,hacc=>by
  have hb:Rep.bytes ByteArray=16:=rfl;have hdl:s.data.toList.length=s.size:=rfl;have hend:qb5 s.data.toList=([],0)→qi1 x acc s=some (acc++(qb5 s.data.toList).1,((x.size-s.size+(qb5 s.data.toList).2:Nat):Int)):=fun h=>by
   rw [h,qi1,qa3 Gf Gf,List.append_nil];congr 2;omega
  rw [qdx];by_cases h2:2≤s.size
  ·have hc0:=qzt (s:=s) (k:=0) Gf;have hc1:=qzt (s:=s) (k:=1) Gf;have hb0:=(s[0]'(by omega)).toNat_lt;have hb1:=(s[1]'(by omega)).toNat_lt;have hcons:s.data.toList=s[0]'(by omega)::s[1]'(by omega)::s.data.toList.drop 2:=by
    have h0:s.data.toList.drop 0=s.data.toList:=rfl;rw [← h0,Ad Gf,Ad Gf];rfl
   have hrb:qkd (s[0]'(by omega)) (s[1]'(by omega))<65536:=by unfold qkd;omega
   have hc0:qkl s 0=_:=hc0;have hc1:qkl s 1=_:=hc1;rw [qae (qac Gf),hc0,qaa,hc1,qaa];simp only [zab];generalize hrr:qkd (s[0]'(by omega)) (s[1]'(by omega))=r at hrb;have hstop:¬ (1≤r∧r≤400∧r≤s.size-2)→qb5 s.data.toList=([],0):=fun hno=>by
    rw [hcons];refine qsl ?_;rw [hrr,A7,hdl];exact hno
   have w2:Gr (2+(r:Int))=((2+r:Nat):Int):=by rw [qa3 Gf Gf];omega
   by_cases c1:r=0
   ·rw [qae (by simp [c1]),qep,cond_true];exact hend (hstop Gf)
   ·rw [qad (by simp;omega)];by_cases c2:400<r
    ·rw [qae (qac Gf),qep,cond_true];exact hend (hstop Gf)
    ·rw [qad (qab Gf),w2];by_cases c3:s.size<2+r
     ·rw [qac Gf,qep,cond_true];exact hend (hstop Gf)
     ·rw [qab Gf,qep,cond_false,qov];simp only [zab,hrr,w2];have k1:qs7 s (some 2) (some ((2+r:Nat):Int))=some (s.extract 2 (2+r)):=by
       unfold qs7 qhk;simp only [Am];rw [if_pos Gf];rfl
      have k2:qs7 s (some ((2+r:Nat):Int)) none=some (s.extract (2+r) s.size):=by
       unfold qs7 qhk;simp only [Am,Bp];rw [if_pos Gf];rfl
      have z1:(s.extract 2 (2+r)).size≤140737488351232:=by rw [Br];omega
      have z2:(s.extract (2+r) s.size).size=s.size-(2+r):=by rw [Br];omega
      have d1:s.extract 2 (2+r)=⟨((s.data.toList.drop 2).take r).toArray⟩:=by
       apply ByteArray.ext;apply Array.ext';rw [Go.Lib.extract_data];simp [List.drop_take]
      have d2:(s.extract (2+r) s.size).data.toList=(s.data.toList.drop 2).drop r:=by
       rw [Go.Lib.extract_data,Bm];exact Dn (by rw [A7,hdl];omega)
      have hgo:qb5 s.data.toList=(⟨((s.data.toList.drop 2).take r).toArray⟩::(qb5 ((s.data.toList.drop 2).drop r)).1,2+r+(qb5 ((s.data.toList.drop 2).drop r)).2):=by
       have:=qzr (a:=s[0]'(by omega)) (b:=s[1]'(by omega)) (r:=s.data.toList.drop 2) (by rw [hrr,A7,hdl];omega);rw [← hcons,hrr] at this;exact this
      rw [k1,qaa,qfw z1,qaa,qas (by rw [hb];simp only [At];omega),qaa,k2,qaa,qr9 hx n (m-1) _ _ Gf Gf Gf (by simp;omega),hgo,d2,d1,z2];simp only [As,List.singleton_append];congr 2;omega
  ·rw [qad (qab Gf)];exact hend (qlx Gf)
theorem q4s {fu:Nat} {log:ByteArray} (hl:log.size≤65536) (hf:log.size<fu):qr4 fu log=some ((qb5 log.data.toList).1,((qb5 log.data.toList).2:Int)):=by
 unfold qr4;rw [qr9 hl fu log.size [] log (Ai _) hf (Ai _) (by simp;omega),Av];congr 2;omega
def VB (s:GNode):Prop:=∀ i,i<32→∀ x∈(eat s.entries i).values,qcy x=x
theorem VB.zero:VB zeroN:=fun i _ x h=>by
 have e:eat zeroN.entries i=Zr.zd:=q5r i;rw [e] at h;exact absurd (show x∈([]:List Int) from h) B4
theorem VB.set {s t:GNode} (h:VB s) {n:Nat} (hn:n<32) {e:GEntry} (ht:t.entries=s.entries.setIfInBounds n e) (he:∀ x∈e.values,qcy x=x):VB t:=fun i hi x hx=>by
 rw [ht,qd0 hn] at hx;by_cases e':n=i
 ·rw [if_pos e'] at hx;exact he x hx
 ·rw [if_neg e'] at hx;exact h i hi x hx
theorem VB.one {s:GNode} (h:VB s) {n:Nat} (hn:n<32) (sh:Int):VB (zdz s n sh) :=
 h.set hn (e:=qh2 (eat s.entries n) (qg9 sh 0 (eat s.entries n).ops s.values [] []).2.1 (qg9 sh 0 (eat s.entries n).ops s.values [] []).2.2) rfl fun x hx=>by
  obtain ⟨L,R,_,e2,_,e4⟩:=qwn (sh:=sh) (eat s.entries n).ops 0 s.values [] [];have hx:x∈(qg9 sh 0 (eat s.entries n).ops s.values [] []).2.2:=hx;rw [e2] at hx;exact e4 x hx
theorem VB.step {sh:Int} {s:GNode} (h:VB s) {m:Nat} (hm:m<32):VB (qwd sh s m):=by
 unfold qwd;cases ((eat s.entries m).state==2)
 ·exact h
 ·exact h.one hm sh
theorem VB.run (sh:Int):∀ (l:List Nat) {s:GNode},VB s→(∀ m∈l,m<32)→VB (zak sh s l)
 | [],_,h,_=>h
 | m::t,_,h,hl=>VB.run sh t (h.step (hl m List.mem_cons_self)) fun x hx=>hl x (List.mem_cons_of_mem _ hx)
theorem VB.turn {sh:Int} {s:GNode} (h:VB s) {n:Nat} (hn:n<32) (g:GGraph):VB (qp8 g sh s n):=by
 unfold qp8;cases ((eat s.entries n).state==2)
 ·exact h
 ·exact VB.run sh _ h (qwf hn)
theorem VB.turns (g:GGraph) (sh:Int):∀ (l:List Nat) {s:GNode},VB s→(∀ m∈l,m<32)→VB (l.foldl (qp8 g sh) s)
 | [],_,h,_=>h
 | m::t,_,h,hl=>VB.turns g sh t (h.turn (hl m List.mem_cons_self) g) fun x hx=>hl x (List.mem_cons_of_mem _ hx)
theorem VB.take {s:GNode} {who:Int} (h:VB s) {f:GFrame}:VB (qcs s who f).1:=by
 by_cases h0:(qcs s who f).2.2=0
 ·obtain ⟨hs,hw,hn,hz,hk⟩:=qun h0;obtain ⟨_,_,hf⟩:=qds hz;have hid:f.id.toNat<32:=by omega
  rw [qum hs hw hn hz];rcases hk with ⟨h1,ht⟩ | h3
  ·rw [qry h1 ht];show VB (q62 s f (ofZ who));unfold q62;cases ((eat s.entries f.id.toNat).state==0)
   ·exact h
   ·exact h.set hid (e:=qym s f (ofZ who)) rfl fun x hx=>absurd (show x∈([]:List Int) from hx) B4
  ·rw [qj7 h3];show VB (qeg s f (ofZ who));unfold qeg;by_cases h2:(eat s.entries f.id.toNat).state<2
   ·rw [qae (qac h2)];exact VB.turns _ _ _ (h.set hid (e:=q63 s f (ofZ who)) (t:=qp9 s f (ofZ who)) rfl fun x hx=>h _ hid x hx) fun m hm=>A9.1 hm
   ·rw [qad (qab h2)];exact h
 ·rw [(q5u h0).1];exact h
theorem qyy {who:Int}:∀ (l:List ByteArray) {s:GNode},VB s→VB (qgb who l s).1
 | [],_,h=>h
 | x::t,s,h=>by
  unfold qgb;cases ((qo0 (byL x)).2 != 0)
  ·rw [cond_false];cases ((qcs s who (qo0 (byL x)).1).2.2 != 0)
   ·exact qyy t h.take
   ·exact VB.zero
  ·exact VB.zero
theorem qyz {s:GNode} {n:Nat} (hn:n<6) {f:GFrame} (hv:VB s) (h0:(qcs s n f).2.2=0):∀ g∈(qcs s n f).2.1,qaf g=0∧g.id=f.id:=by
 have hg:=qiz h0;have hvt:=hv.take (who:=(n:Int)) (f:=f);obtain ⟨hs,hw,hfn,hz,hk⟩:=qun h0;obtain ⟨_,_,hf⟩:=qds hz;have hi:f.id.toNat<32:=by omega
 have hidn:((f.id.toNat:Nat):Int)=f.id:=by omega
 rw [qum hs hw hfn hz] at hg hvt ⊢;rcases hk with ⟨h1,ht⟩ | h3
 ·rw [qry h1 ht] at hg hvt ⊢;have hst:(eat (q62 s f (ofZ n)).entries f.id.toNat).state≠0:=by
   unfold q62;cases h0:((eat s.entries f.id.toNat).state==0)
   ·simpa using h0
   ·show (eat (s.entries.setIfInBounds _ _) _).state≠0;rw [qd0 hi,if_pos rfl];show (1:Int)≠0;decide
  intro g hgm;rw [Ag.1 hgm];have:=q98 hg hn hi hst;rw [hidn] at this;exact ⟨this,rfl⟩
 ·rw [qj7 h3] at hg hvt ⊢;intro g hgm;have hkn:qaf (qnv n f.id)=0:=by
   have:=q7d (n:=n) hn hi;rwa [hidn] at this
  have hgm:g∈qha (ofZ n) n f.id (qeg s f (ofZ n)):=hgm;unfold qha at hgm;cases hb:((eat (qeg s f (ofZ n)).entries f.id.toNat).state==3&&qag (eat (qeg s f (ofZ n)).entries f.id.toNat).ops (ofZ n))
  ·rw [hb] at hgm;rw [Ag.1 (show g∈[qnv n f.id] from hgm)];exact ⟨hkn,rfl⟩
  ·rw [hb] at hgm;simp only [X9,beq_iff_eq] at hb;rcases Ab.1 (show g∈[qnv n f.id,q61 n f.id (eat (qeg s f (ofZ n)).entries f.id.toNat)] from hgm) with hgm | hgm
   ·rw [hgm];exact ⟨hkn,rfl⟩
   ·rw [Ag.1 hgm];have:=q7e hg hn hi (hvt _ hi) hb.1;rw [hidn] at this;exact ⟨this,rfl⟩
theorem ql8 {c:GCase} {x:Int}:∀ f∈qj6 c x,qaf f=0∧f.id=x:=fun f hf=>by
 unfold qj6 at hf;cases hs:q4a c x
 ·rw [hs] at hf;cases hf
 ·rw [hs,cond_true] at hf;unfold q4a at hs;simp only [X9,decide_eq_true_eq,Dt] at hs;obtain ⟨h1,h2,h3,h4⟩:=hs;obtain ⟨i,rfl⟩:∃ i:Nat,x=i:=⟨x.toNat,by omega⟩;obtain ⟨j,_,h6,hj⟩:=(q2r 6 0).1 hf;refine ⟨q7f h1 h2 Gf Gf h4 f hj,?_⟩;unfold qkg at hj;cases hfx:c.fixed
  ·rw [hfx,cond_false] at hj;cases ht:(qag c.ops (ofZ j) && !qaw c.told j)
   ·rw [ht] at hj;cases hj
   ·rw [ht,cond_true] at hj;rw [Ag.1 hj]
  ·rw [hfx,cond_true] at hj;cases ht:(!qaw c.known j || !qeq c (ofZ j))
   ·rw [ht] at hj;cases hj
   ·rw [ht,cond_true] at hj;rw [Ag.1 hj]
theorem qws {t:GTxn}:∀ f∈(qer t).2.1,qaf f=0∧f.id=t.id:=fun f hf=>by
 unfold qer at hf;cases h1:decide (0≤t.id∧t.id<32)
 ·rw [h1] at hf;cases hf
 ·cases h2:qak t.ops
  ·rw [h1,h2] at hf;cases hf
  ·rw [h1,h2] at hf;exact ql8 f hf
theorem qy0 {c:GCase} {x:Int} {f:GFrame} (h0:(qby c x f).2.2=0):∀ g∈(qby c x f).2.1,qaf g=0∧g.id=x:=by
 have hno:∀ g∈([]:List GFrame),qaf g=0∧g.id=x:=fun g hg=>absurd hg B4;unfold qby at *;cases ht:qxa c x f
 ·exact hno
 ·rw [cond_true];cases hz:(qaf f==0)
  ·exact hno
  ·rw [cond_true];unfold qpi;cases h2:(f.kind==2)
   ·rw [cond_false];cases h4:(f.kind==4)
    ·rw [cond_false];cases h5:(f.kind==5)
     ·exact hno
     ·cases c.fixed<;>exact hno
    ·cases c.fixed<;>exact hno
   ·rw [cond_true];cases hb:(c.fixed||(qaw c.told f.node.toNat || !qag c.ops (ofZ f.node)))
    ·show ∀ g∈(bif (q4f (ql3 c f)).fixed then qj6 (q4f (ql3 c f)) x else []),_;cases (q4f (ql3 c f)).fixed
     ·exact hno
     ·exact ql8
    ·exact hno
def Sent (b:Int) (l:List GFrame):Prop:=∀ f∈l,qaf f=0∧f.id<b
theorem VBs.set {v:Vector GNode 6} (h:∀ k,k<6→VB (qay v k)) {n:Nat} (hn:n<6) {x:GNode} (hx:VB x):∀ k,k<6→VB (qay (v.setIfInBounds n x) k):=fun k hk=>by
 rw [qe7 hn];by_cases e:n=k
 ·rw [if_pos e];exact hx
 ·rw [if_neg e];exact h k hk
def Txts (b:Int) (net:List ByteArray):Prop:=∀ s∈net,∃ f,qaf f=0∧s=(q1q f).1∧f.id<b
theorem Txts.send {b:Int} {net:List ByteArray} (h:Txts b net) {l:List GFrame} (hl:Sent b l):Txts b (qki net l):=fun s hs=>by
 rcases q2s l net s hs with hm | ⟨f,hf,h0,e⟩
 ·exact h s hm
 ·exact ⟨f,h0,e,(hl f hf).2⟩
theorem Txts.mono {b b':Int} {net:List ByteArray} (h:Txts b net) (hb:b≤b'):Txts b' net:=fun s hs=>by
 obtain ⟨f,h1,h2,h3⟩:=h s hs;exact ⟨f,h1,h2,by omega⟩
structure WP (c:GCluster) (net:List ByteArray):Prop where
 vals:∀ n,n<6→VB (qay c.nodes n)
 sent:Txts c.begun net
theorem qy1 {c:GCluster} {net:List ByteArray} {n:Nat} {f:GFrame} {s:ByteArray}:(qfr c net n f s).2.1.cases=c.cases∧(qfr c net n f s).2.1.begun=c.begun:=by
 unfold qfr;cases qay c.down n
 ·rw [cond_false];cases ((qcs (qay c.nodes n) n f).2.2 != 0)
  ·rw [cond_false];cases decide (qay c.tear n>0)
   ·rw [cond_false];cases (qdy (qay c.logs n) s != 0)<;>exact ⟨rfl,rfl⟩
   ·exact ⟨rfl,rfl⟩
  ·exact ⟨rfl,rfl⟩
 ·exact ⟨rfl,rfl⟩
theorem WP.come {c:GCluster} {net:List ByteArray} (h:WP c net) {n:Nat} (hn:n<6) {f:GFrame} {s:ByteArray} (hf:f.id<c.begun):WP (qfr c net n f s).2.1 (qfr c net n f s).2.2:=by
 unfold qfr;cases qay c.down n
 ·rw [cond_false];cases h1:((qcs (qay c.nodes n) n f).2.2 != 0)
  ·have h1:(qcs (qay c.nodes n) n f).2.2=0:=by simpa using h1
   rw [cond_false];by_cases h2:qay c.tear n>0
   ·rw [qae (qac h2)];exact ⟨VBs.set h.vals hn VB.zero,h.sent⟩
   ·rw [qad (qab h2)];cases h3:(qdy (qay c.logs n) s != 0)
    ·rw [cond_false];refine ⟨VBs.set h.vals hn ((h.vals n hn).take),h.sent.send fun g hg=>?_⟩;obtain ⟨g1,g2⟩:=qyz hn (h.vals n hn) h1 g hg;exact ⟨g1,by rw [g2];exact hf⟩
    ·exact ⟨h.vals,h.sent⟩
  ·exact h
 ·exact h
theorem WP.frm2 {c:GCluster} {net:List ByteArray} (h:WP c net) {kind:Int} {f:GFrame} {s:ByteArray} (hn:0≤f.node∧f.node<6) (hf:f.id<c.begun):WP (frm2 c net kind f s).2.1 (frm2 c net kind f s).2.2:=by
 unfold Go.Proofs.YtaimhfbbenbdaaaGreat.frm2;cases (kind==4)
 ·cases (f.kind==1||f.kind==3)
  ·rw [cond_false,cond_false];cases h0:((qby (qay c.cases f.id.toNat) f.id f).2.2 != 0)
   ·have h0:(qby (qay c.cases f.id.toNat) f.id f).2.2=0:=by simpa using h0
    refine ⟨h.vals,h.sent.send fun g hg=>?_⟩;obtain ⟨g1,g2⟩:=qy0 h0 g hg;exact ⟨g1,by rw [g2];exact hf⟩
   ·exact h
  ·exact h.come Gf hf
 ·exact h
theorem Txts.at {b:Int} {net:List ByteArray} (h:Txts b net) {x:Int} (hx:0≤x∧x<net.length):qaf (qfd net x)=0∧qjv net x=(q1q (qfd net x)).1∧(qfd net x).id<b:=by
 have hm:qjv net x∈net:=by
  unfold qjv;rw [X7 Gf];exact A2 _
 obtain ⟨f,h1,h2,h3⟩:=h _ hm;have e:qfd net x=f:=by
  unfold qfd;rw [h2];exact zbt h1
 rw [e];exact ⟨h1,h2,h3⟩
theorem WP.cut {c:GCluster} {net net':List ByteArray} (h:WP c net) (hs:∀ s∈net',s∈net):WP c net':=⟨h.vals,fun s hm=>h.sent s (hs s hm)⟩
theorem WP.frm {c:GCluster} {net:List ByteArray} (h:WP c net) {a:GAct}:WP (q0d c net a).2.1 (q0d c net a).2.2:=by
 unfold q0d;by_cases hx:0≤a.n∧a.n<net.length
 ·obtain ⟨h1,h2,h3⟩:=h.sent.at hx;rw [qac hx,cond_true];refine WP.frm2 (h.cut fun s hs=>?_) (qds h1).2.1 h3;cases hk:(a.kind==3)
  ·rw [hk] at hs;exact B8 hs
  ·rw [hk] at hs;exact hs
 ·rw [qab hx];exact h
theorem WP.beg {c:GCluster} {net:List ByteArray} (h:WP c net) {ops:List GOp}:WP (q90 c net ops).2.1 (q90 c net ops).2.2:=by
 unfold q90;cases decide (c.begun≥32)
 ·rw [cond_false];cases ((qer { id:=c.begun,ops:=ops }).2.2 != 0)
  ·rw [cond_false];refine ⟨h.vals,Txts.send (h.sent.mono (by show c.begun≤c.begun+1;omega)) fun g hg=>?_⟩;obtain ⟨g1,g2⟩:=qws g hg;have g2:g.id=c.begun:=g2;exact ⟨g1,by rw [g2];show c.begun<c.begun+1;omega⟩
  ·exact h
 ·exact h
theorem WP.pow {c:GCluster} {net:List ByteArray} (h:WP c net) {a:GAct}:WP (q5v c net a).2.1 (q5v c net a).2.2:=by
 unfold q5v;cases hp:q2o a
 ·exact h
 ·unfold q2o at hp;simp only [X9,decide_eq_true_eq] at hp;have hn:a.n.toNat<6:=by omega
  rw [cond_true];cases (!(qay c.down a.n.toNat==(a.kind==8)))
  ·rw [cond_false];cases (a.kind==7)
   ·rw [cond_false];cases (a.kind==6)
    ·exact ⟨VBs.set h.vals hn (qyy _ VB.zero),h.sent⟩
    ·exact ⟨VBs.set h.vals hn VB.zero,h.sent⟩
   ·exact ⟨h.vals,h.sent⟩
  ·exact h
theorem WP.do {c:GCluster} {net:List ByteArray} (h:WP c net) {a:GAct}:WP (q4m c net a).2.1 (q4m c net a).2.2:=by
 unfold q4m;cases decide (c.acts≥400)
 ·have hi:WP { c with acts:=c.acts+1 } net:=⟨h.vals,h.sent⟩;rw [cond_false];unfold doA;cases (a.kind==1)
  ·rw [cond_false];cases (a.kind==2||(a.kind==3||a.kind==4))
   ·rw [cond_false];cases (a.kind==5)
    ·rw [cond_false];cases (a.kind==6||(a.kind==7||a.kind==8))
     ·exact hi
     ·exact hi.pow
    ·rw [cond_true];unfold zd5;by_cases hx:0≤a.n∧a.n<({ c with acts:=c.acts+1 }:GCluster).begun
     ·rw [qac hx,cond_true];refine ⟨hi.vals,hi.sent.send fun g hg=>?_⟩;obtain ⟨g1,g2⟩:=ql8 g hg;exact ⟨g1,by rw [g2];exact hx.2⟩
     ·rw [qab hx];exact hi
   ·exact hi.frm
  ·exact hi.beg
 ·exact h
theorem zg7:WP q7b []:=by
 refine ⟨fun n _=>?_,fun s hs=>absurd hs B4⟩;show VB (qay (Zr.zd:Vector GNode 6) n);rw [qju];exact VB.zero
theorem qml {f:GFrame} (hf:AtOk f) {d:GCase}:∀ (n m k:Nat) (c:GCase),f.at_.length=k+m→m<n→c.ops.length≤4→qbk f d (ofZ f.node) n c k=some (qla (ofZ f.node) c (f.at_.drop k) (f.vals.drop k),[],0)
 | 0,m,k,c,_,h,_=>absurd h Gf
 | n+1,0,k,c,hk,_,_=>by
  rw [qbk,qad (qab Gf),List.drop_of_length_le Gf];rfl
 | n+1,m+1,k,c,hk,hn,hc=>by
  have hlt:k<f.at_.length:=by omega
  have hlv:k<f.vals.length:=by have:=hf.len;omega
  have ih:=fun c h1=>qml hf (d:=d) n m (k+1) c Gf Gf h1;have hw:Gr ((k:Int)+1)=((k+1:Nat):Int):=by have:=hf.small;rw [qa3 Gf Gf];omega
  rw [qbk,qae (qac Gf),qap,List.getElem?_eq_getElem hlt,qaa,List.drop_eq_getElem_cons hlt,List.drop_eq_getElem_cons hlv];have hx:=hf.mem f.at_[k] (List.getElem_mem _);simp only [qdw,qgd,hw,qla];generalize f.at_[k]=x at hx;have hd:=ql2 (sh:=ofZ f.node) (c:=c) (k:=x) (v:=f.vals[k]);have ihd:=ih (qbj (ofZ f.node) c x f.vals[k]) (by rw [hd.1];exact hc);by_cases h1:x<(c.ops.length:Int)
  ·obtain ⟨o,ho⟩:∃ o,idx c.ops x=some o:=by
    unfold idx;rw [if_pos hx.1];exact ⟨_,X7 Gf⟩
   rw [qae (qac h1),ho,qaa,qaa];cases h2:(qa6 o.key==ofZ f.node)
   ·rw [← ihd];simp only [cond_false,qbj,ho,Ak,Am,h2,Da,Eb]
   ·rw [qae (by rfl),qaj hx.1 hx.2,qaa,qp7 hx.1 hx.2,qaa];cases h3:qaw c.has x.toNat
    ·rw [← ihd];have e:qbj (ofZ f.node) c x f.vals[k]={ c with has:=c.has.setIfInBounds x.toNat true,values:=c.values.setIfInBounds x.toNat f.vals[k] }:=by
      simp only [qbj,ho,Ak,Am,h2,h3,qac h1,Ap,Aq,cond_true]
     rw [e];simp only [Ap,cond_true];rw [qap,X7 hlv,qaa,qaa,qar hx.1 hx.2,qaa,qaa,qaa,qz7 hx.1 hx.2,qaa,qar hx.1 hx.2,qaa];rfl
    ·rw [← ihd];simp only [Aj,cond_false,qbj,ho,Ak,Am,h2,h3,Eb]
  ·rw [qad (qab h1),← ihd];simp only [cond_false,qbj,qab h1,Da]
def CSz (c:GCase):Prop:=c.ops.length*24≤140737488351232∧c.deps.length*8≤140737488351232
theorem q2v {fu:Nat} {c:GCase} (h:CSz c):qn2 fu c=some c:=by
 obtain ⟨h1,h2⟩:=h;unfold qn2;rw [qas (by simp [Rep.bytes];omega),qaa,qas (by simp [Rep.bytes];omega),qaa,qaa,qaa,qaa];rfl
theorem qt6 {fu:Nat} {c d:GCase} {id:Int} (hf:10≤fu):qao fu id d c fu (Zr.zd:Vector Int 2) 0=qb8 fu id d (q4f c):=by
 have h1:∀ b,0≤qld b∧qld b≤1:=fun b=>by cases b<;>decide
 have step:∀ (n:Nat) (a b:Int) (k:Nat),k<6→0≤a→a≤10→0≤b→b≤10 →
  qao fu id d c (n+1) #v[a,b] k=qao fu id d c n (if k<3 then #v[a+qld (qaw c.told k),b] else #v[a,b+qld (qaw c.told k)]) ((k+1:Nat):Int):=by
  intro n a b k hk ha ha2 hb hb2
  rw [qao,qae (qac Gf),qaj Gf Gf,qaa,qeo c.told k Gf,qaa]
  simp only [qgc]
  rw [show Gr ((k:Int)+1)=((k+1:Nat):Int) from by rw [qa3 Gf Gf];omega]
  cases qaw c.told k
  ·simp [qld]
  ·have ho:ofZ (k:Int)=if k<3 then 0 else 1:=by
    have:k=0∨k=1∨k=2∨k=3∨k=4∨k=5:=by omega
    rcases this with rfl | rfl | rfl | rfl | rfl | rfl<;>rfl
   rw [qae rfl,qaa,ho]
   by_cases h3:k<3
   ·rw [if_pos h3,if_pos h3,qaj Gf Gf,qaa]
    have e1:qam #v[a,b] 0=some a:=rfl
    rw [e1,qaa,qaa,qaa,qa3 Gf Gf]
    rfl
   ·rw [if_neg h3,if_neg h3,qaj Gf Gf,qaa]
    have e1:qam #v[a,b] 1=some b:=rfl
    rw [e1,qaa,qaa,qaa,qa3 Gf Gf]
    rfl
 obtain ⟨n,rfl⟩:∃ n,fu=n+7:=⟨fu-7,by omega⟩;have b0:=h1 (qaw c.told 0);have b1:=h1 (qaw c.told 1);have b2:=h1 (qaw c.told 2);have b3:=h1 (qaw c.told 3);have b4:=h1 (qaw c.told 4);have b5:=h1 (qaw c.told 5);have z:(Zr.zd:Vector Int 2) = #v[0,0]:=rfl;rw [z];have s0:qao (n+7) id d c (n+7) #v[0,0] 0=_:=step (n+6) 0 0 0 Gf Gf Gf Gf Gf;rw [s0,if_pos Gf];have s1:qao (n+7) id d c (n+6) #v[0+qld (qaw c.told 0),0] ((0+1:Nat):Int)=_:=step (n+5) (0+qld (qaw c.told 0)) 0 1 Gf Gf Gf Gf Gf;rw [s1,if_pos Gf];have s2:qao (n+7) id d c (n+5) #v[0+qld (qaw c.told 0)+qld (qaw c.told 1),0] ((1+1:Nat):Int)=_:=step (n+4) _ 0 2 Gf Gf Gf Gf Gf;rw [s2,if_pos Gf];have s3:qao (n+7) id d c (n+4) #v[0+qld (qaw c.told 0)+qld (qaw c.told 1)+qld (qaw c.told 2),0] ((2+1:Nat):Int)=_:=step (n+3) _ 0 3 Gf Gf Gf Gf Gf;rw [s3,if_neg Gf];have s4:qao (n+7) id d c (n+3) #v[0+qld (qaw c.told 0)+qld (qaw c.told 1)+qld (qaw c.told 2),0+qld (qaw c.told 3)] ((3+1:Nat):Int)=_:=step (n+2) _ _ 4 Gf Gf Gf Gf Gf;rw [s4,if_neg Gf];have s5:qao (n+7) id d c (n+2) #v[0+qld (qaw c.told 0)+qld (qaw c.told 1)+qld (qaw c.told 2),0+qld (qaw c.told 3)+qld (qaw c.told 4)] ((4+1:Nat):Int)=_:=step (n+1) _ _ 5 Gf Gf Gf Gf Gf;rw [s5,if_neg Gf,qao,qad (qab Gf)];have c0:0+qld (qaw c.told 0)+qld (qaw c.told 1)+qld (qaw c.told 2)=qpf c.told 0:=by unfold qpf;rw [D9]
 have c1:0+qld (qaw c.told 3)+qld (qaw c.told 4)+qld (qaw c.told 5)=qpf c.told 3:=by unfold qpf;rw [D9]
 rw [c0,c1];have e0:qam #v[qpf c.told 0,qpf c.told 3] 0=some (qpf c.told 0):=rfl;have e1:qam #v[qpf c.told 0,qpf c.told 3] 1=some (qpf c.told 3):=rfl;rw [e0,e1];simp only [qaa];have g0:decide (qpf c.told 0>1)=decide (qpf c.told 0≥2):=by congr 1
 have g1:decide (qpf c.told 3>1)=decide (qpf c.told 3≥2):=by congr 1
 rw [g0,g1];unfold q4f qg8;cases qag c.ops 0<;>cases qag c.ops 1<;>cases decide (qpf c.told 0≥2)<;>cases decide (qpf c.told 3≥2)<;>rfl
theorem qxf {fu:Nat} {c:GCase} {id:Int} {f:GFrame} (hf:10≤fu) (hc:CSz c):qjw fu c id f=some (qby c id f):=by
 unfold qjw qby qxa qcw;rw [qsw Gf];simp only [qaa];cases hg:qdz c
 ·rfl
 ·cases hb:c.begun
  ·rfl
  ·by_cases hid:f.id=id
   ·have e1:(f.id != id)=false:=by simp [hid]
    have e2:(f.id==id)=true:=by simp [hid]
    rw [e1,e2];cases hh:qcx c.deps id
    ·simp only [Aj,Ap,Gc,cond_true,cond_false,qip,qaa,qe3];by_cases hz:qaf f=0
     ·have hin:=qds hz;have hat:=q4e hz;have hl:=ql0 hg hb;have e3:(qaf f != 0)=false:=by simp [hz]
      have e4:(qaf f==0)=true:=by simp [hz]
      rw [e3,e4];simp only [cond_false,cond_true,qpi,qio];rw [q2v hc];simp only [qaa];have hj3:∀ d:GCase,qdm (Zr.zd:GCase) d=some (d,[],0):=fun d=>rfl;have hkk:f.kind=1∨f.kind=2∨f.kind=3∨f.kind=4∨f.kind=5:=by omega
      simp only [qdn,qgf,qge];rcases hkk with hk | hk | hk | hk | hk<;>simp only [hk,show ((1:Int)==1)=true from rfl,show ((2:Int)==1)=false from rfl,show ((3:Int)==1)=false from rfl,show ((4:Int)==1)=false from rfl,show ((5:Int)==1)=false from rfl,
       show ((2:Int)==3)=false from rfl,show ((3:Int)==3)=true from rfl,show ((4:Int)==3)=false from rfl,show ((5:Int)==3)=false from rfl,show ((1:Int)==2)=false from rfl,show ((2:Int)==2)=true from rfl,show ((3:Int)==2)=false from rfl,
       show ((4:Int)==2)=false from rfl,show ((5:Int)==2)=false from rfl,show ((4:Int)==4)=true from rfl,show ((5:Int)==4)=false from rfl,show ((1:Int)==4)=false from rfl,show ((3:Int)==4)=false from rfl,show ((2:Int)==4)=false from rfl,
       show ((5:Int)==5)=true from rfl,show ((4:Int)==5)=false from rfl,show ((1:Int)==5)=false from rfl,show ((3:Int)==5)=false from rfl,show ((2:Int)==5)=false from rfl,cond_true,cond_false]
      ·cases hfx:c.fixed
       ·simp only [Ap,cond_true,Bi];rw [qaj hin.2.1.1 hin.2.1.2,qaa,qp7 hin.2.1.1 hin.2.1.2,qaa];cases ht:qaw c.told f.node.toNat
        ·simp only [Ap,cond_true,Bi,qaa];cases hto:qag c.ops (ofZ f.node)
         ·rfl
         ·simp only [Aj,cond_true,cond_false];rw [qar hin.2.1.1 hin.2.1.2,qaa,show ({ begun:=c.begun,fixed:=false,ops:=c.ops,told:=c.told.setIfInBounds f.node.toNat true,known:=c.known,deps:=qmd c.deps f.deps,has:=c.has,values:=c.values }:GCase)=ql3 c f from by unfold ql3;rw [hfx],qt6 (c:=ql3 c f) hf,qb8];have ha:=ql1 (c:=q4f (ql3 c f)) (id:=id) (fu:=fu) Gf;cases he:(q4f (ql3 c f)).fixed
          ·rfl
          ·rw [qae rfl,ha];rfl
        ·rfl
       ·rfl
      ·cases hfx:c.fixed
       ·rfl
       ·simp only [cond_true];rw [qaj hin.2.1.1 hin.2.1.2,qaa,qp7 hin.2.1.1 hin.2.1.2,qaa,qar hin.2.1.1 hin.2.1.2,qaa];rfl
      ·cases hfx:c.fixed
       ·rfl
       ·simp only [cond_true];exact qml hat fu f.at_.length 0 c Gf (by have:=hat.small;omega) hl
     ·have e3:(qaf f != 0)=true:=by simp [hz]
      have e4:(qaf f==0)=false:=by simp [hz]
      rw [e3,e4];rfl
    ·rfl
   ·have e1:(f.id != id)=true:=by simp [hid]
    have e2:(f.id==id)=false:=by simp [hid]
    rw [e1,e2];rfl
def toR (c:GCluster) (net:List ByteArray):GRefCluster:={ nodes:=c.nodes,logs:=c.logs,down:=c.down,tear:=c.tear,cases:=Hole.mk,net:=net,acts:=c.acts }
structure Ref (c:GCluster) (cs:List GCase):Prop where
 len:(cs.length:Int)=c.begun
 cas:∀ k,k<cs.length→cs[k]? = some (qay c.cases k)
theorem Ref.at {c:GCluster} {cs:List GCase} (h:Ref c cs) {x:Int} (h0:0≤x) (h1:x<c.begun):idx cs x=some (qay c.cases x.toNat):=by
 have:=h.len;unfold idx;rw [if_pos h0,h.cas _ Gf]
theorem qt1 {fu:Nat} (hfu:40≤fu) {l:List GFrame} (hl:l.length≤1000) (hg:∀ f∈l,qaf f=0) {cs:List GCase}:∀ (n m k:Nat) (d:GRefCluster),l.length=k+m→m<n→qe4 fu l n d cs k=some ({ d with net:=qki d.net (l.drop k) },cs)
 | 0,m,k,_,_,h=>absurd h Gf
 | n+1,0,k,d,hk,_=>by
  rw [qe4,qad (qab Gf),Bz Gf];rfl
 | n+1,m+1,k,d,hk,hn=>by
  have hb:Rep.bytes ByteArray=16:=rfl;have hlt:k<l.length:=by omega
  have ih:=fun d=>qt1 hfu hl hg (cs:=cs) n m (k+1) d Gf Gf;have hz:=hg _ (A2 hlt);rw [qe4,qae (qac Gf),qap,X7 hlt,qaa,qaa,qvo _ hfu,qaa,Ad hlt];generalize l[k]=f at hz;have hs:=qrz f;simp only [qn3,zg1 k Gf,qki];rw [hz];by_cases h2:d.net.length<60
  ·rw [qae (qac Gf),qfw Gf,qaa,qas (by rw [hb];simp only [At];omega),qaa,qaa,ih,qac h2];rfl
  ·rw [qad (qab Gf),ih,qab h2];rfl
theorem qox {fu:Nat} (hfu:1100≤fu) {l:List GFrame} (hl:l.length≤1000) (hg:∀ f∈l,qaf f=0) {cs:List GCase} {d:GRefCluster}:qqd fu d cs l=some ({ d with net:=qki d.net l },cs) :=
 qt1 Gf hl hg fu l.length 0 d Gf Gf
theorem qy2 {fu:Nat} {c:GCluster} {net:List ByteArray} {cs:List GCase} {x:Int} (h0:0≤x) (h6:x<6):qs4 fu (toR c net) cs x=some (toR (q66 c x.toNat) net,cs):=by
 unfold qs4;rw [qaa,qaj h0 h6,qaa,qkh h0 h6,qaa,qar h0 h6,qaa,qaa,qaa,qkh h0 h6,qaa,qar h0 h6,qaa,qaa,qaa,qkh h0 h6,qaa,qar h0 h6,qaa,qaa];rfl
theorem q2w {c:GCluster} {n:Nat}:c.logs.setIfInBounds n (qay c.logs n)=c.logs:=by
 refine Vector.ext fun i hi=>?_;rw [Dc];by_cases e:n=i
 ·subst e;rw [if_pos rfl];unfold qay;simp [hi]
 ·rw [if_neg e]
theorem q2x {fu:Nat} (hfu:1100≤fu) {c:GCluster} {net:List ByteArray} {cs:List GCase} (h:CInv c net) (hw:WP c net) {f:GFrame} {s:ByteArray} (h0:0≤f.node) (h6:f.node<6) (hs:s.size≤400) :
 qn4 fu (toR c net) cs f s=some ((qfr c net f.node.toNat f s).1,toR (qfr c net f.node.toNat f s).2.1 (qfr c net f.node.toNat f s).2.2,cs):=by
 have hn:f.node.toNat<6:=by omega
 have ex:((f.node.toNat:Nat):Int)=f.node:=by omega
 have hg:=h.node _ hn;have hlog:=h.log _ hn;have ht:=h.tear _ hn;have hl:=q2n (s:=qay c.nodes f.node.toNat) (who:=f.node) (f:=f);have hsent:=fun h0=>qyz (f:=f) hn (hw.vals _ hn) h0;rw [ex] at hsent;unfold qn4 qfr;rw [qaj h0 h6,qaa,show (toR c net).down=c.down from rfl,qkh h0 h6,qaa,ex];cases qay c.down f.node.toNat
 ·rw [cond_false,cond_false,qaa,show (toR c net).nodes=c.nodes from rfl,qkh h0 h6,qaa,qrx hg.sizes Gf Gf,qaa,qaa];unfold ql5;cases h1:((qcs (qay c.nodes f.node.toNat) f.node f).2.2 != 0)
  ·have h1:(qcs (qay c.nodes f.node.toNat) f.node f).2.2=0:=by simpa using h1
   rw [cond_false,cond_false,qaj h0 h6,qaa,show (toR c net).tear=c.tear from rfl,qkh h0 h6,qaa];by_cases h2:qay c.tear f.node.toNat>0
   ·rw [qae (qac h2),qae (qac h2),qaa,show (toR c net).logs=c.logs from rfl,qkh h0 h6,qaa,qaa,qaa,qa3 Gf Gf,q4r Gf Gf,qaa,qaa,qfw (by have:=qs0 (s:=s) (n:=qay c.tear f.node.toNat-1) hlog;omega),qaa,qaa,qar h0 h6,qaa,qaa];have:=qy2 (fu:=fu) (c:={ c with logs:=c.logs.setIfInBounds f.node.toNat (qw2 (qay c.logs f.node.toNat) s (qay c.tear f.node.toNat-1)) }) (net:=net) (cs:=cs) h0 h6;exact (congrArg (fun o=>o.bind fun r59=>some ((6:Int),r59.1,r59.2)) this)
   ·rw [qad (qab h2),qad (qab h2),qaa,show (toR c net).logs=c.logs from rfl,qkh h0 h6,qaa,qt0 Gf,qaa];cases h3:(qdy (qay c.logs f.node.toNat) s != 0)
    ·rw [cond_false,cond_false,qaa,qfw (by have:=qr0 (s:=s) hlog;dsimp only;omega),qaa,qaa,qar h0 h6,qaa,qaa,qaa];dsimp only;rw [qkh h0 h6,qaa,qar h0 h6,qaa,qaa,qox hfu Gf (fun g hg=>(hsent h1 g hg).1),qaa];rfl
    ·have hne:qdy (qay c.logs f.node.toNat) s≠0:=by simpa using h3
     have e:qw1 (qay c.logs f.node.toNat) s=qay c.logs f.node.toNat:=by unfold qw1;rw [if_neg hne]
     rw [cond_true,cond_true];dsimp only;rw [e,q2w]
  ·rfl
 ·rfl
theorem Ref.setCase {c:GCluster} {cs:List GCase} (h:Ref c cs) {k:Nat} (hk:k<32) (x:GCase):Ref { c with cases:=c.cases.setIfInBounds k x } (cs.set k x):=by
 refine ⟨by rw [Dq];exact h.len,fun j hj=>?_⟩;rw [Dq] at hj;show (cs.set k x)[j]? = some (qay (c.cases.setIfInBounds k x) j);rw [qe7 hk,Ew];by_cases e:k=j
 ·rw [if_pos e,if_pos e,if_pos Gf]
 ·rw [if_neg e,if_neg e];exact h.cas j hj
def Stp (o:Option (GReply × GRefCluster × List GCase)) (r:GReply × GCluster × List ByteArray):Prop:=∃ cs',o=some (r.1,toR r.2.1 r.2.2,cs')∧Ref r.2.1 cs'
theorem qy3 {fu:Nat} (hfu:1100≤fu) {c:GCluster} {net:List ByteArray} {cs:List GCase} (h:CInv c net) (hw:WP c net) (hr:Ref c cs) {a:GAct} {s:ByteArray} (hs:s.size≤400) {f:GFrame} (hn:0≤f.node∧f.node<6) (hi:0≤f.id∧f.id<c.begun) {g:GReply} :
 Stp (qs5 fu a cs g s f (toR c net)) (frm2 c net a.kind f s):=by
 have h32:=h.begun;have hk:f.id.toNat<32:=by omega
 unfold qs5 frm2;cases h4:(a.kind==4)
 ·have harr:Stp (qn5 fu cs g s f (toR c net) true) (bif (qfr c net f.node.toNat f s).1 != 0 then qsc (qfr c net f.node.toNat f s).1 else okR f.id [],(qfr c net f.node.toNat f s).2.1,(qfr c net f.node.toNat f s).2.2):=by
   have hr':Ref (qfr c net f.node.toNat f s).2.1 cs:=by
    obtain ⟨e1,e2⟩:=qy1 (c:=c) (net:=net) (n:=f.node.toNat) (f:=f) (s:=s);exact ⟨by rw [e2];exact hr.len,fun k hk=>by rw [e1];exact hr.cas k hk⟩
   rw [qn5,cond_true,q2x hfu h hw hn.1 hn.2 hs,qaa];cases hc:((qfr c net f.node.toNat f s).1 != 0)
   ·exact ⟨cs,rfl,hr'⟩
   ·exact ⟨cs,rfl,hr'⟩
  have htake:Stp (qn5 fu cs g s f (toR c net) false) (bif (qby (qay c.cases f.id.toNat) f.id f).2.2 != 0 then (qsc (qby (qay c.cases f.id.toNat) f.id f).2.2,c,net) else (q2m { c with cases:=c.cases.setIfInBounds f.id.toNat (qby (qay c.cases f.id.toNat) f.id f).1 } f.id,{ c with cases:=c.cases.setIfInBounds f.id.toNat (qby (qay c.cases f.id.toNat) f.id f).1 },qki net (qby (qay c.cases f.id.toNat) f.id f).2.1)):=by
   obtain ⟨g1,g2⟩:=qqc (h.cas f.id.toNat hk);have hl:=(qwa (c:=qay c.cases f.id.toNat) (id:=f.id) (f:=f)).2.1;rw [qn5,cond_false,q0j,hr.at hi.1 hi.2,qaa,qxf Gf ⟨by omega,by omega⟩,qaa,qaa,q0i];cases h0:((qby (qay c.cases f.id.toNat) f.id f).2.2 != 0)
   ·have h0:(qby (qay c.cases f.id.toNat) f.id f).2.2=0:=by simpa using h0
    have hsent:=fun g hg=>(qy0 h0 g hg).1;have e:q2m { c with cases:=c.cases.setIfInBounds f.id.toNat (qby (qay c.cases f.id.toNat) f.id f).1 } f.id=okR f.id (qes (qby (qay c.cases f.id.toNat) f.id f).1).1:=by
     unfold q2m;dsimp only;rw [qe7 hk,if_pos rfl]
    rw [cond_false,cond_false,hr.at hi.1 hi.2,qaa,qaa,qox hfu Gf hsent,qaa,qtm Gf,qaa,qaa,qaa,e];exact ⟨_,rfl,hr.setCase hk _⟩
   ·exact ⟨cs,rfl,hr⟩
  rw [cond_false,cond_false];cases h1:(f.kind==1)
  ·rw [cond_false,Bi];cases h3:(f.kind==3)
   ·exact htake
   ·exact harr
  ·exact harr
 ·exact ⟨cs,rfl,hr⟩
theorem q7i {fu:Nat} (hfu:1100≤fu) {c:GCluster} {net:List ByteArray} {cs:List GCase} (h:CInv c net) (hw:WP c net) (hr:Ref c cs) {a:GAct} (hx:0≤a.n∧a.n<net.length) {g:GReply} :
 Stp (qwq fu a (toR c net) cs g) (q0d c net a):=by
 have hb:Rep.bytes ByteArray=16:=rfl;obtain ⟨hn1,hn2⟩:=h.net;obtain ⟨hz,ht,hlt⟩:=hw.sent.at hx;obtain ⟨_,hfn,hfi⟩:=qds hz;have hi:idx net a.n=some (qjv net a.n):=by
  unfold idx qjv;rw [if_pos hx.1,X7 Gf];rfl
 have hsz:(qjv net a.n).size≤400:=by
  rw [ht];have:=qrz (qfd net a.n);omega
 have hk3:(a.kind != 3) = !(a.kind==3):=rfl;have he:(qo0 (byL (qjv net a.n))).1=qfd net a.n:=rfl;unfold qwq q0d;rw [qac hx,cond_true,show (toR c net).net=net from rfl,hi,qaa,qnz Gf Gf,qaa,qaa,he,hk3];cases (a.kind==3)
 ·obtain ⟨k,hk⟩:∃ k:Nat,a.n=k:=⟨a.n.toNat,by omega⟩;have e1:Gr (a.n+1)=((k+1:Nat):Int):=by rw [qa3 Gf Gf];omega
  have e2:net.eraseIdx a.n.toNat=net.take k++net.drop (k+1):=by
   rw [Ed];have:a.n.toNat=k:=by omega
   rw [this]
  rw [Ap,cond_true,cond_false,e1,q11 Gf,e2];have e3:qxm net none (some a.n)=some (net.take k):=by rw [hk];exact q12 Gf
  rw [e3,qaa,qaa,qas (by rw [hb];simp only [A8,Bw];omega),qaa,Av,qas (by rw [hb];simp only [Bw,A7];omega),qaa,qaa,← e2];exact qy3 hfu (h.cut (fun s hs=>B8 hs) (D6 ..)) (hw.cut fun s hs=>B8 hs) hr hsz hfn ⟨hfi.1,hlt⟩
 ·rw [Aj,cond_false,cond_true];exact qy3 hfu h hw hr hsz hfn ⟨hfi.1,hlt⟩
theorem q7j {fu:Nat} (hfu:1100≤fu) {c:GCluster} {net:List ByteArray} {cs:List GCase} (h:CInv c net) (hw:WP c net) (hr:Ref c cs) {a:GAct} {g:GReply} :
 Stp (qwr fu a g (toR c net) cs) (q0d c net a):=by
 have hno:¬ (0≤a.n∧a.n<net.length)→Stp (qs6 fu a g (toR c net) cs true) (q0d c net a):=fun hx=>by
  unfold q0d;rw [qab hx];exact ⟨cs,rfl,hr⟩
 unfold qwr;by_cases h0:a.n<0
 ·rw [qae (qac h0)];exact hno Gf
 ·rw [qad (qab h0),show (toR c net).net=net from rfl];by_cases h1:a.n≥(net.length:Int)
  ·rw [qac h1];exact hno Gf
  ·rw [qab h1,qs6,cond_false];exact q7i hfu h hw hr ⟨by omega,by omega⟩
theorem qwt {fu:Nat} (hfu:70000≤fu) {c:GCluster} {net:List ByteArray} {cs:List GCase} (h:CInv c net) (hr:Ref c cs) {a:GAct} (h0:0≤a.n) (h6:a.n<6) (hm:a.kind=7→0≤a.m∧a.m≤400) (hk:a.kind=6∨a.kind=7∨a.kind=8) {g:GReply} :
 Stp (qr8 fu cs a (toR c net) g) (bif !(qay c.down a.n.toNat==(a.kind==8)) then (qsc 6,c,net) else bif a.kind==7 then (qsc 0,{ c with tear:=c.tear.setIfInBounds a.n.toNat (a.m+1) },net) else bif a.kind==6 then (qsc 0,q66 c a.n.toNat,net) else (qsc 0,q68 c a.n.toNat,net)):=by
 have hn:a.n.toNat<6:=by omega
 have ex:((a.n.toNat:Nat):Int)=a.n:=by omega
 have hlog:=h.log _ hn;unfold qr8;rw [qaj h0 h6,qaa,show (toR c net).down=c.down from rfl,qkh h0 h6,qaa];cases hd:(!(qay c.down a.n.toNat==(a.kind==8)))
 ·rw [cond_false,cond_false];rcases hk with k6 | k7 | k8
  ·rw [k6,qae Gg,qy2 h0 h6,qaa];exact ⟨cs,rfl,hr.len,hr.cas⟩
  ·have hm:=hm k7;rw [k7,qad Gg,qae Gg,qaa,qkh h0 h6,qaa,qa3 Gf Gf,qar h0 h6,qaa,qaa];exact ⟨cs,rfl,hr.len,hr.cas⟩
  ·obtain ⟨r1,r2,r3⟩:=qp5 _ (qay c.logs a.n.toNat).data.toList (Ai _);have hdl:(qay c.logs a.n.toNat).data.toList.length=(qay c.logs a.n.toNat).size:=rfl;have hcut:qs7 (qay c.logs a.n.toNat) none (some ((qb5 (qay c.logs a.n.toNat).data.toList).2:Int))=some ((qay c.logs a.n.toNat).extract 0 (qb5 (qay c.logs a.n.toNat).data.toList).2):=by
    unfold qs7 qhk;simp only [Am,Bp];rw [if_pos Gf,Di];rfl
   have hrep:qi0 fu a.n (qb5 (qay c.logs a.n.toNat).data.toList).1=some (qgb a.n (qb5 (qay c.logs a.n.toNat).data.toList).1 zeroN):=by
    rw [q0c Gf Gf (fun x hx=>by have:=r3 x hx;omega),qac (show 0≤a.n∧a.n<6 from ⟨h0,h6⟩),cond_true]
   rw [k8,qad Gg,qad Gg,qae Gg,qaa,show (toR c net).logs=c.logs from rfl,qkh h0 h6,qaa,q4s hlog Gf,qaa,qaa,qaa,hcut,qaa,qaa,qfw (by rw [Br];omega),qaa,qaa,qar h0 h6,qaa,qaa,
    hrep,qaa,qaa,qkh h0 h6,qaa,qar h0 h6,qaa,qaa,qaa,qkh h0 h6,qaa,qar h0 h6,qaa,qaa]
   refine ⟨cs,?_,hr.len,hr.cas⟩;unfold ql6 q68;rw [ex];rfl
 ·exact ⟨cs,rfl,hr⟩
theorem q4t {fu:Nat} (hfu:70000≤fu) {c:GCluster} {net:List ByteArray} {cs:List GCase} (h:CInv c net) (hr:Ref c cs) {a:GAct} (hk:a.kind=6∨a.kind=7∨a.kind=8):Stp (qiq fu cs a (toR c net) true) (q5v c net a):=by
 have hno:Stp (qhh fu cs a (toR c net) true) (qsc 2,c,net):=⟨cs,rfl,hr⟩;unfold qiq q5v q2o;rw [cond_true];by_cases h0:a.n<0
 ·rw [qae (qac h0),qab (show ¬ (0≤a.n∧a.n<6) by omega)];exact hno
 ·rw [qad (qab h0)];by_cases h6:a.n>5
  ·rw [qae (qac h6),qab (show ¬ (0≤a.n∧a.n<6) by omega)];exact hno
  ·rw [qad (qab h6),qac (show 0≤a.n∧a.n<6 by omega),Aq];cases h7:(a.kind==7)
   ·have h7':a.kind≠7:=by simpa using h7
    rw [cond_false,Da,Ap,cond_true,qhh,cond_false,← h7];exact qwt hfu h hr Gf Gf (fun e=>absurd e h7') hk
   ·rw [cond_true];by_cases m0:a.m<0
    ·rw [qae (qac m0),qab (show ¬ (0≤a.m∧a.m≤400) by omega)];exact hno
    ·rw [qad (qab m0)];by_cases m4:a.m>400
     ·rw [qac m4,qab (show ¬ (0≤a.m∧a.m≤400) by omega)];exact hno
     ·rw [qab m4,qac (show 0≤a.m∧a.m≤400 by omega),Aj,Eb,Ap,cond_true,qhh,cond_false,← h7];exact qwt hfu h hr Gf Gf (fun _=>by omega) hk
theorem q0m {x y:Int} (h:x=y):(x==y)=true:=by simp [h]
theorem q4u {x y:Int} (h:x≠y):(x==y)=false:=by simp [h]
theorem zbv {fu:Nat} (hfu:70000≤fu) {c:GCluster} {net:List ByteArray} {cs:List GCase} (h:CInv c net) (hw:WP c net) (hr:Ref c cs) {a:GAct}:Stp (zaa fu (toR c net) cs a) (q4m c net a):=by
 unfold zaa q4m;rw [show (toR c net).acts=c.acts from rfl];by_cases ha:c.acts≥400
 ·rw [qae (q0m (by have:=h.acts;omega)),qae (qac ha)];exact ⟨cs,rfl,hr⟩
 ·have hi:=h.act ha;have hacts:=h.acts;have hwi:WP { c with acts:=c.acts+1 } net:=⟨hw.vals,hw.sent⟩;have hri:Ref { c with acts:=c.acts+1 } cs:=⟨hr.len,hr.cas⟩;rw [qad (q4u Gf),qad (qab ha),qa3 Gf Gf,qaa];have e0:({ toR c net with acts:=c.acts+1 }:GRefCluster)=toR { c with acts:=c.acts+1 } net:=rfl;rw [e0];generalize ({ c with acts:=c.acts+1 }:GCluster)=c1 at hi hwi hri;have hlen:=hri.len;have h32:=hi.begun;unfold doA;by_cases k1:a.kind=1
  ·rw [qae (q0m k1),qae (q0m k1)];unfold q90;by_cases hf:c1.begun≥32
   ·rw [qae (q0m Gf),qae (qac hf)];exact ⟨cs,rfl,hri⟩
   ·have hb:Rep.bytes GCase=112:=by rfl
    rw [qad (q4u Gf),qad (qab hf),qaa,hlen,qz2 Gf,qaa,qaa,q0k];cases hc:((qer { id:=c1.begun,ops:=a.ops }).2.2 != 0)
    ·have hl:=qyt { id:=c1.begun,ops:=a.ops };rw [cond_false,cond_false,qas (by rw [hb];simp only [At];omega),qaa,qaa,qox Gf Gf (fun f hf=>(qws f hf).1),qaa];dsimp only;have e:Gr (((cs++[(qer { id:=c1.begun,ops:=a.ops }).1]).length:Int)-1)=c1.begun:=by
      rw [Ac,At,qa3 Gf Gf];omega
     rw [e];refine ⟨_,rfl,?_,fun k hk=>?_⟩
     ·show ((cs++[(qer { id:=c1.begun,ops:=a.ops }).1]).length:Int)=c1.begun+1;rw [Ac,At];omega
     ·rw [Ac,At] at hk;show _=some (qay (c1.cases.setIfInBounds c1.begun.toNat _) k);rw [qe7 Gf];by_cases e:c1.begun.toNat=k
      ·rw [if_pos e,Bj Gf];have:k-cs.length=0:=by omega
       rw [this];rfl
      ·rw [if_neg e,Au Gf];exact hri.cas k Gf
    ·exact ⟨cs,rfl,hri⟩
  ·rw [qad (q4u k1),qad (q4u k1)];by_cases k5:a.kind=5
   ·have o:(a.kind==2||(a.kind==3||a.kind==4))=false:=by rw [k5];rfl
    rw [qae (q0m k5),qad o,qae (q0m k5)];unfold zd5;by_cases n0:a.n<0
    ·rw [qae (qac n0),qab (show ¬ (0≤a.n∧a.n<c1.begun) by omega)];exact ⟨cs,rfl,hri⟩
    ·rw [qad (qab n0),hlen];by_cases nb:a.n≥c1.begun
     ·rw [qac nb,qab (show ¬ (0≤a.n∧a.n<c1.begun) by omega)];exact ⟨cs,rfl,hri⟩
     ·have hat:=hri.at (x:=a.n) Gf Gf;have hl:=(againC_small (c:=qay c1.cases a.n.toNat) (id:=a.n)).1;rw [qab nb,qac (show 0≤a.n∧a.n<c1.begun by omega),cond_true,qr7,cond_false,q0l,hat,qaa,ql1 Gf,qaa,qox Gf Gf (fun f hf=>(ql8 f hf).1),qaa];dsimp only;rw [hat,qaa,qtm Gf,qaa,qaa,qaa];exact ⟨_,rfl,hri⟩
   ·rw [qad (q4u k5)];have hpow:(a.kind=6∨a.kind=7∨a.kind=8)→Stp (qiq fu cs a (toR c1 net) true) (bif (a.kind==2||(a.kind==3||a.kind==4)) then q0d c1 net a else bif a.kind==5 then zd5 c1 net a else bif (a.kind==6||(a.kind==7||a.kind==8)) then q5v c1 net a else (qsc 3,c1,net)):=fun hk=>by
     have o:(a.kind==2||(a.kind==3||a.kind==4))=false:=by rcases hk with k | k | k<;>rw [k]<;>rfl
     have o':(a.kind==6||(a.kind==7||a.kind==8))=true:=by rcases hk with k | k | k<;>rw [k]<;>rfl
     rw [qad o,qad (q4u k5),qae o'];exact q4t hfu hi hri hk
    by_cases k6:a.kind=6
    ·rw [qae (q0m k6),q0m k6];rw [q0m k6] at hpow;exact hpow (.inl k6)
    ·rw [qad (q4u k6)];by_cases k7:a.kind=7
     ·rw [qae (q0m k7),q0m k7];rw [q0m k7] at hpow;exact hpow (.inr (.inl k7))
     ·rw [qad (q4u k7)];by_cases k8:a.kind=8
      ·rw [q0m k8];rw [q0m k8] at hpow;exact hpow (.inr (.inr k8))
      ·rw [q4u k8,q4u k7,q4u k6,qiq,cond_false,qad (c:=a.kind==5) (q4u k5)];have hfr:∀ (b:Bool),b=true→Stp (ql7 fu cs a (toR c1 net) b) (q0d c1 net a):=fun b hb=>by
        rw [ql7,hb,cond_true];exact q7j Gf hi hwi hri
       by_cases k2:a.kind=2
       ·rw [q0m k2];exact hfr true rfl
       ·rw [q4u k2];by_cases k3:a.kind=3
        ·rw [q0m k3];exact hfr true rfl
        ·rw [q4u k3];by_cases k4:a.kind=4
         ·rw [q0m k4];exact hfr true rfl
         ·rw [q4u k4];exact ⟨cs,rfl,hri⟩
def qfq (c10:Bool):Option Bool := some c10
def qlc (fu:Nat) (a:GReply) (b:GReply):Option Bool:=(bif a.code==b.code then (bif a.n==b.n then (some (qkm a.values b.values)).bind fun c=>qfq c else qfq false) else qfq false)
theorem q2y {c:Gq} {d:Gq} {e:GReply} {f:GReply} {r:Bool} (s:Agree M w) (g:rep M c e) (h:rep M d f) (b:qlc fu e f=some r) :
    Calls Tryz.prog 6 #[Gj c,Gj d] w (qav w (.bool r)):=by
 refine Zk Tryz.func6 24 fun T k=>?_;have t:T 0=Gj c:=k 0;have u:T 1=Gj d:=k 1;have a:Gm w M [] w:=Zs s;rw [qlc] at b;refine Qy ?_;refine Ql<|Yq (v:= Gj c) (cs:=c) t rfl a fun x w3 ai a=>Ql (Yq (v:= Gj d) (cs:=d) u rfl a ?_);intro y _ _ a;refine Qa (Qf (.bool false) rfl)<|Qj ?_;refine Qp (fun z w'=>∃ i j,Gl w M i∧Gm w i [Gp y d 48,Gp x c 48] w'∧z 4= .bool j∧qfq j=some r) ?_ ?_;refine Q1<|Qa (Qi zb6 rfl)<|Qa (Qh (Gi e.code) ts24 rfl (a.bvB 1 rfl) (GReply.p0 (rr g)))<|Qa (Qi zb6 rfl)<|Qa (Qh (Gi f.code) ts24 rfl (a.bvB 0 rfl) (GReply.p0 (rr h)))<|Qa (Ya rfl rfl)<|Qa (Qd (.bool (e.code==f.code)) rfl) ?_;rcases ic b with ⟨l,b⟩ | ⟨l,b⟩<;>rw [l];refine Qg rfl rfl (Qi zb7 rfl)<|Qg rfl rfl (Qh (Gi e.n) Z8 rfl (a.bvB 1 rfl) (GReply.p1 (rr g)))<|Qg rfl rfl (Qi zb7 rfl)<|Qg rfl rfl (Qh (Gi f.n) Z8 rfl (a.bvB 0 rfl) (GReply.p1 (rr h)))<|Qg rfl rfl (Ya rfl rfl)<|Qw 2 rfl ?_;rcases ic b with ⟨m,b⟩ | ⟨m,b⟩<;>rw [m];refine Qg rfl rfl (Qi zb8 rfl) ?_;obtain ⟨o,ab,ac⟩:=(GReply.p2 (rr g));refine Qg rfl rfl (Qh o Zz rfl (a.bvB 1 rfl) ab)<|Qg rfl rfl (Qi zb8 rfl) ?_;obtain ⟨p,ad,ae⟩:=(GReply.p2 (rr h));refine Qg rfl rfl (Qh p Zz rfl (a.bvB 0 rfl) ad) ?_;obtain ⟨q,af,b⟩:=Qz b;refine Vs rfl rfl<|Zi (vs:=[o,p]) (v:= .bool q) zc4 (Z4 rfl rfl) a (af ▸ (Ku a.agree ac ae)) fun al a=>Qw 2 rfl<|Qj ?_;exact ⟨M,q,(Qc _ _ _),a,rfl,b⟩;refine Qw 7 rfl<|Qj ?_;exact ⟨M,false,(Qc _ _ _),a,rfl,b⟩;refine Qw 14 rfl<|Qj ?_;exact ⟨M,false,(Qc _ _ _),a,rfl,b⟩;rintro _ _ ⟨i,j,_,a,ag,b⟩;rw [qfq] at b;cases b;exact Q2 (Yk rfl ag ⟨rfl,a.kept⟩)
def qbl (b:List ByteArray) (c:List ByteArray):Nat→Int→Option Bool
 | 0,_=>none
 | n+1,a=>(bif decide (a<(b.length:Int)) then (idx b a).bind fun d=>(idx c a).bind fun e=>(bif !(d.toList==e.toList) then some false else (qbl b c n) (Gr (a+1))) else some true)
def qgg (fu:Nat) (x1:List ByteArray) (x2:List ByteArray):Option Bool:=(bif (x1.length:Int) != (x2.length:Int) then some false else qbl x1 x2 fu 0)
theorem qwu {h:Value} {i:Value} {d:List ByteArray} {j:List ByteArray} {r:Bool} (z:Agree M w) (e:repL M h d) (k:repL M i j) (a:qgg fu d j=some r) :
    Calls Tryz.prog 10 #[h,i] w (qav w (.bool r)):=by
 refine Zk Tryz.func10 26 fun T q=>?_;have m:T 0=h:=q 0;have s:T 1=i:=q 1;have b:Gm w M [] w:=Zs z;rw [qgg] at a;refine Qy<|Qa (Qf (.bool false) rfl)<|Qj<|Qt<|Qy<|Zj m ?_;obtain ⟨_,_,aa,_⟩:=Q0 e;refine Qa (Zo Y4 (Vz aa rfl))<|Zj s ?_;obtain ⟨_,_,ab,_⟩:=Q0 k;refine Qa (Zo Y4 (Vz ab rfl))<|Qa (Ym rfl rfl)<|Qj ?_;refine Q6 a rfl (fun ac a=>?_) fun ac a=>?_;refine Qy<|Qa (Qf (.bool false) rfl)<|Qj ?_;cases a;exact Q2 (Yk rfl rfl ⟨rfl,b.kept⟩);refine Qk<|Qe<|Qt<|Qy<|Zj m ?_;obtain ⟨_,_,ad,_⟩:=Q0 e;refine Qa (Zo Y4 (Vz ad rfl))<|Qa (Qd (Gi 0) rfl)<|Qj<|Qs ?_;refine Zy (fun n g t=>∃ l c,Gl w M l∧Gm w l [] t∧g 0=h∧g 1=i∧g 12=Gi (d.length:Int)∧g 13=Gi c∧qbl d j n c=some r) fu ?_ ?_ ?_;exact ⟨M,(0:Int),(Qc _ _ _),b,m,s,rfl,rfl,a⟩;rintro g t ⟨_,_,_,_,_,_,_,_,a⟩;rw [qbl] at a;cases a;intro n;rintro _ _ ⟨l,c,o,b,u,v,x,p,a⟩;replace e:=Qo o.1 e;replace k:=Qo o.1 k;rw [qbl] at a;obtain ⟨_,y⟩:∃ f,f=qbl d j n:=⟨_,rfl⟩;rw [← y] at a;refine Qy<|Qa (Zt p x)<|Qj<|Qt ?_;refine Q6 a rfl (fun ae a=>?_) fun ae a=>?_;refine Qk<|Qe<|Qt<|Qs<|Qy<|Zj p<|Qa (Qf (Gi c) rfl)<|Qj<|Qt<|Uc Z2 Gh b<|Yo (Qd _ u)<|Yo (Qd (Gi c) rfl) ?_;obtain ⟨af,_,_,_,_,ag,ah,ai,aj,ak,a⟩:=Yc 1 e a;refine Yo (Yr zb5 rfl ag rfl ah ai)<|Yo (Qh (.string af) ts9 rfl (ze8 aj) ak.1)<|Yo (Qd _ v)<|Yo (Qd (Gi c) rfl) ?_;obtain ⟨al,_,_,_,_,am,an,ao,ap,aq,a⟩:=Yc 1 k a;refine Yo (Yr zb5 rfl am rfl an ao)<|Yo (Qh (.string al) ts9 rfl (ze8 ap) aq.1)<|Yo (zcl rfl rfl)<|Ur ?_;intro _ b;refine Qe ?_;refine Q6 a rfl (fun ar a=>?_) fun ar a=>?_;refine Qy<|Qa (Qf (.bool false) rfl)<|Qj ?_;cases a;exact Q2 (Yk rfl rfl ⟨rfl,b.kept⟩);refine Qk<|Q8<|Qe<|Q1<|Qa (Zu p rfl)<|Qa (Qd (Gi (Gr (c+1))) rfl)<|Qj ?_;exact ⟨l,(Gr (c+1)),o,b,u,v,x,rfl,(by rw [← y];exact a)⟩;refine Zp<|Qr<|Qr<|Zq<|Qe<|Qy<|Qa (Qf (.bool true) rfl)<|Qj ?_;cases a;exact Q2 (Yk rfl rfl ⟨rfl,b.kept⟩)
def qgh (y34:Int) (rec35:GRefCluster→GCluster→(List ByteArray)→(List GCase)→Int→Option Bool) (d47:GRefCluster) (d49:GCluster) (l52:List ByteArray) (l57:List GCase):Option Bool := rec35 d47 d49 l52 l57 (Gr (y34+1))
def qeh (y34:Int) (rec35:GRefCluster→GCluster→(List ByteArray)→(List GCase)→Int→Option Bool) (d68:GRefCluster) (d70:GCluster) (l73:List ByteArray) (l78:List GCase) (c83:Bool):Option Bool:=(bif c83 then some false else qgh y34 rec35 d68 d70 l73 l78)
def qgi (fu:Nat) (d:List GAct) (g:GRefCluster) (h:GCluster) (i:List ByteArray) (j:List GCase) (c:Int) (e:GRefCluster→GCluster→(List ByteArray)→(List GCase)→Int→Option Bool):Option Bool:=(idx d c).bind fun k=>(idx d c).bind fun l=>(q9e fu h i k).bind fun a=>(zaa fu g j l).bind fun b=>(qlc fu a.1 b.1).bind fun m=>(bif !m then qeh c e b.2.1 a.2.1 a.2.2 b.2.2 true else (q1m fu a.2.1 a.2.2).bind fun f=>(qgg fu f.1 b.2.1.net).bind fun n=>qeh c e b.2.1 a.2.1 f.2 b.2.2 (!n))
def qgj (y134:Int) (rec135:GCluster→(List ByteArray)→Int→Option Bool) (d144:GCluster) (l147:List ByteArray):Option Bool := rec135 d144 l147 (Gr (y134+1))
def qda (l131:List ByteArray) (y134:Int) (rec135:GCluster→(List ByteArray)→Int→Option Bool) (d174:GCluster) (c176:Bool):Option Bool:=(bif c176 then some false else qgj y134 rec135 d174 l131)
def qdb (fu:Nat) (a:GCluster) (c:List ByteArray) (b:Int) (d:GCluster→(List ByteArray)→Int→Option Bool) (f:GNode) (g:Bool) (h:ByteArray):Option Bool:=(qm6 fu a b).bind fun e=>(some e.1).bind fun i=>(qra fu i f).bind fun j=>(bif !j then qda c b d a true else (bif !(e.2==g) then qda c b d a true else (qtd fu a b).bind fun k=>qda c b d a (!(k.toList==h.toList))))
def qcj (fu:Nat) (b:GRefCluster) (c:GCluster) (d:List ByteArray) (a:Int) (e:GCluster→(List ByteArray)→Int→Option Bool) (f:Bool):Option Bool:=(bif f then (inR a 6).bind fun _=>(qam b.nodes a).bind fun g=>(inR a 6).bind fun _=>(qam b.down a).bind fun h=>(inR a 6).bind fun _=>(qam b.logs a).bind fun i=>(some g).bind fun j=>qdb fu c d a e j h i else qdb fu c d a e (Zr.zd:GNode) false (⟨#[]⟩:ByteArray))
def qgk (y229:Int) (rec230:GCluster→(List ByteArray)→Int→Option Bool) (d239:GCluster) (l242:List ByteArray):Option Bool := rec230 d239 l242 (Gr (y229+1))
def qcl (fu:Nat) (a:GCluster) (c:List ByteArray) (b:Int) (d:GCluster→(List ByteArray)→Int→Option Bool) (e:GCase):Option Bool:=(qlw fu a b).bind fun f=>(qje fu f e).bind fun g=>(bif !g then some false else qgk b d a c)
def qb4 (fu:Nat) (e:List GCase) (b:GCluster) (c:List ByteArray) (a:Int) (d:GCluster→(List ByteArray)→Int→Option Bool) (f:Bool):Option Bool:=(bif f then (idx e a).bind fun g=>(some g).bind fun h=>qcl fu b c a d h else qcl fu b c a d (Zr.zd:GCase))
def qaz (fu:Nat) (l29:List GCase):Nat→GCluster→(List ByteArray)→Int→Option Bool
 | 0,_,_,_=>none
 | n+1,d223,l226,y229=>(bif decide (y229≤32) then (bif decide (y229≥0) then qb4 fu l29 d223 l226 y229 (qaz fu l29 n) (decide (y229<(l29.length:Int))) else qb4 fu l29 d223 l226 y229 (qaz fu l29 n) false) else some true)
def qa0 (fu:Nat) (d19:GRefCluster) (l29:List GCase):Nat→GCluster→(List ByteArray)→Int→Option Bool
 | 0,_,_,_=>none
 | n+1,d128,l131,y134=>(bif decide (y134≤6) then (bif decide (y134≥0) then qcj fu d19 d128 l131 y134 (qa0 fu d19 l29 n) (decide (y134<6)) else qcj fu d19 d128 l131 y134 (qa0 fu d19 l29 n) false) else qaz fu l29 fu d128 l131 (-1))
def qck (fu:Nat) (x1:List GAct) (d19:GRefCluster) (d21:GCluster) (l24:List ByteArray) (l29:List GCase) (y34:Int) (rec35:GRefCluster→GCluster→(List ByteArray)→(List GCase)→Int→Option Bool) (c121:Bool):Option Bool:=(bif c121 then qgi fu x1 d19 d21 l24 l29 y34 rec35 else qa0 fu d19 l29 fu d21 l24 (-1))
def qbm (fu:Nat) (x1:List GAct):Nat→GRefCluster→GCluster→(List ByteArray)→(List GCase)→Int→Option Bool
 | 0,_,_,_,_,_=>none
 | n+1,d19,d21,l24,l29,y34=>(bif decide (y34<(x1.length:Int)) then qck fu x1 d19 d21 l24 l29 y34 (qbm fu x1 n) (decide (y34<150)) else qck fu x1 d19 d21 l24 l29 y34 (qbm fu x1 n) false)
def qir (fu:Nat) (b:List GAct):Option Bool:=(q5e fu).bind fun a=>(some ({ nodes:=Zr.zd,logs:=Zr.zd,down:=Zr.zd,tear:=Zr.zd,cases:=Zr.zd,net:=Zr.zd,acts:=Zr.zd }:GRefCluster)).bind fun c=>qbm fu b fu c a.1 a.2 ([]:List GCase) 0
theorem clusterPlays_ok {aq:Value} {s:List GAct} {r:Bool} (hA:Agree M w) (an:repL M aq s) (a:qir fu s=some r) :
    Calls Tryz.prog 4 #[aq] w (qav w (.bool r)):=by
 refine Zk Tryz.func4 131 fun T hT=>?_;have gp:T 0=aq:=hT 0;have b:Gm w M [] w:=Zs hA;rw [qir] at a;refine Qy<|Qa (Qf (.bool false) rfl)<|Qj<|Qy ?_;obtain ⟨r4,gq,a⟩:=Qb a;refine Ql (Yg (vs:=[]) (L:=[]) (R:=[]) (rv:=(fun n u L'=>∃ fc d5 d6 fd,u=Gk fc∧L'=[Gp fc d5 89,.stk d6 9 1 fd]∧rep n d5 r4.1∧skr n d6 fd r4.2∧sl d5 1993 1=[d6])) cb8 q5y b (b.sel [] Gg rfl) (fun b=>zbl b.agree gq) ?_);rintro _ M3 _ _ gr ⟨d,gs,gt,gu,rfl,gv,gw,gx,gy⟩ b;replace b:=b _ gv;replace an:=Qo gr.1 an;obtain ⟨d7,gz,a⟩:=Qb a;obtain ⟨bz,d8,g1⟩:∃ cs,qa1 (([(0,1206),(1206,6),(1212,6),(1218,6),(1224,1),(1225,1),(1226,1)]:List (Nat × Nat))[·]?) (Zr.zc GRefCluster) []=some cs∧rep M3 cs d7:=⟨_,Yd,Ye (x:=({ nodes:=Zr.zd,logs:=Zr.zd,down:=Zr.zd,tear:=Zr.zd,cases:=Zr.zd,net:=Zr.zd,acts:=Zr.zd }:GRefCluster)) (Zr.zr:rep M3 (Zr.zc GRefCluster) (Zr.zd:GRefCluster)) gz⟩;have g2:sl bz 1224 1=[.slice none 0 0]:=(Y7 d8 (by rfl)).trans (by rfl);replace b:=b.nilStk 62 24;have g3:skr M3 (.slice none 0 0) [] ([]:List GCase):=q3m;have g4:sl bz 1225 1=[.slice none 0 0]:=(Y7 d8 (by rfl)).trans (by rfl);replace b:=b.nilRow 9 1;refine Qa (Z0 [] tb45 Vq d8) ?_;refine Ql<|Yq (v:= Gj bz) (cs:=bz) rfl rfl b fun e lj lk b=>Qw 2 rfl<|Qj<|Qt<|Qy<|Qa (Qd (Gk d) rfl)<|Qa (Xk rfl rfl Kb)<|Qj<|qy5 rfl<|Qk<|Qe<|Qt<|Qy<|Qa (Qf (Gi 0) rfl)<|Qj<|Qs ?_;refine Zy (fun d9 c g=>∃ ah h ar au a9 av a4 ba i l ae m o,Gl w M3 ah∧Gm w ah [Gp e h 45,.row m 9 1,.stk i 62 24 l,Gp d au 89,.stk av 9 1 a4] g∧rep ah h ar∧rep ah au a9∧skr ah av a4 ba∧sl au (0+1993) 1=[av]∧skr ah i l ae∧sl h (1224) 1=[i]∧sl h (1225) 1=[m]∧c 0=aq∧c 3=Gk d∧c 4=Gk e∧c 5=Gi o∧qbm fu s d9 ar a9 ba ae o=some r) fu ?_ ?_ ?_;exact ⟨M3,bz,d7,gs,r4.1,gt,gu,r4.2,(.slice none 0 0),[],([]:List GCase),(.slice none 0 0),(0:Int),(Qc _ _ _),b,g1,gw,gx,gy,g3,g2,g4,gp,rfl,rfl,rfl,a⟩;rintro c g ⟨_,_,_,_,_,_,_,_,_,_,_,_,_,_,_,_,_,_,_,_,_,_,_,_,_,_,a⟩;rw [qbm] at a;cases a;intro d9;rintro _ _ ⟨ah,h,ar,au,a9,av,a4,ba,i,l,ae,m,o,ff,b,aa,bb,bc,fg,y,ea,g5,eb,fh,fi,cu,a⟩;replace an:=Qo ff.1 an;rw [qbm] at a;obtain ⟨cv,fj⟩:∃ f,f=qbm fu s d9:=⟨_,rfl⟩;rw [← fj] at a;refine Qp (fun c g=>∃ b0,Gl w ah b0∧Gm w b0 [Gp e h 45,.row m 9 1,.stk i 62 24 l,Gp d au 89,.stk av 9 1 a4] g∧c 0=aq∧c 3=Gk d∧c 4=Gk e∧c 5=Gi o∧qgi fu s ar a9 ba ae o cv=some r) ?_ ?_;refine Qp (fun c g=>∃ bd ec,Gl w ah bd∧Gm w bd [Gp e h 45,.row m 9 1,.stk i 62 24 l,Gp d au 89,.stk av 9 1 a4] g∧c 0=aq∧c 3=Gk d∧c 4=Gk e∧c 5=Gi o∧c 26= .bool ec∧qck fu s ar a9 ba ae o cv ec=some r) ?_ ?_;refine Q1<|Zj cu<|Zj eb ?_;obtain ⟨_,_,g6,_⟩:=Q0 an;refine Qa (Zo Tryz.underlying22 (Vz g6 rfl))<|Qa (Zt rfl rfl)<|Qa (Qd (.bool (decide (o<(s.length:Int)))) rfl) ?_;rcases ic a with ⟨fk,a⟩ | ⟨fk,a⟩<;>rw [fk];refine Qg rfl rfl (Qd _ cu)<|Qg rfl rfl (Zt rfl rfl)<|Qa (Zn (.bool (decide (o<150))) rfl rfl)<|Qj ?_;exact ⟨ah,(decide (o<150)),(Qc _ _ _),b,eb,fh,fi,cu,rfl,a⟩;refine Qw 3 rfl<|Qj ?_;exact ⟨ah,false,(Qc _ _ _),b,eb,fh,fi,cu,rfl,a⟩;rintro _ _ ⟨bd,ec,b1,b,g7,fl,fm,g8,g9,a⟩;replace aa:=Zf b1 aa;replace bb:=Zf b1 bb;replace bc:=Zh b1.1 bc;replace y:=Zh b1.1 y;rw [qck] at a;refine Q6 a g9 (fun ha a=>?_) fun ha a=>?_;refine Qk<|Qe ?_;exact ⟨bd,b1,b,g7,fl,fm,g8,a⟩;refine Zp<|Qr<|Qr<|Zq<|Qe<|Qt<|Qy<|Qa (Qf (Gi (-1)) rfl)<|Qj<|Qs ?_;refine Zy (fun ed c g=>∃ ad z ao ab af aw p,Gl w bd ad∧Gm w ad [Gp e h 45,.row m 9 1,.stk i 62 24 l,Gp d z 89,.stk ab 9 1 af] g∧rep ad z ao∧skr ad ab af aw∧sl z (0+1993) 1=[ab]∧c 3=Gk d∧c 4=Gk e∧c 6=Gi p∧qa0 fu ar ae ed ao aw p=some r) fu ?_ ?_ ?_;exact ⟨bd,au,a9,av,a4,ba,((-1):Int),(Qc _ _ _),b,bb,bc,fg,fl,fm,rfl,a⟩;rintro c g ⟨_,_,_,_,_,_,_,_,_,_,_,_,_,_,_,a⟩;rw [qa0] at a;cases a;intro ed;rintro _ _ ⟨ad,z,ao,ab,af,aw,p,ee,b,ag,be,cw,ef,eg,b2,a⟩;replace aa:=Zf ee aa;replace y:=Zh ee.1 y;rw [qa0] at a;obtain ⟨cx,fn⟩:∃ f,f=qa0 fu ar ae ed:=⟨_,rfl⟩;rw [← fn] at a;refine Qt<|Qy<|Zj b2<|Qa (q22 rfl rfl)<|Qj ?_;refine Q6 a rfl (fun hb a=>?_) fun hb a=>?_;refine Qk<|Qe ?_;refine Qp (fun c g=>∃ bg b3 cy b4 c1 c2,Gl w ad bg∧Gm w bg [Gp e h 45,.row m 9 1,.stk i 62 24 l,Gp d b3 89,.stk b4 9 1 c1] g∧rep bg b3 cy∧skr bg b4 c1 c2∧sl b3 (0+1993) 1=[b4]∧c 3=Gk d∧c 4=Gk e∧c 6=Gi p∧qgj p cx cy c2=some r) ?_ ?_;refine Qs<|Qy ?_;refine Ql (Zl Ut b ?_);intro ax _ _ b;have b5:rep ad (Zr.zc GNode) (Zr.zd:GNode):=Zr.zr;refine Qj<|Qy<|Qa (Qf (.bool false) rfl)<|Qj<|Qy<|Qa (Qf (.string (⟨#[]⟩:ByteArray)) rfl)<|Qj ?_;refine Qp (fun c g=>∃ c3 ay eh ei b6,Gl w ad c3∧Gm w c3 [Gp ax ay 37,Gp e h 45,.row m 9 1,.stk i 62 24 l,Gp d z 89,.stk ab 9 1 af] g∧rep c3 ay eh∧c 3=Gk d∧c 4=Gk e∧c 6=Gi p∧c 7=Gk ax∧c 8= .bool ei∧c 9= .string b6∧qdb fu ao aw p cx eh ei b6=some r) ?_ ?_;refine Qp (fun c g=>∃ b7 ej,Gl w ad b7∧Gm w b7 [Gp ax (Zr.zc GNode) 37,Gp e h 45,.row m 9 1,.stk i 62 24 l,Gp d z 89,.stk ab 9 1 af] g∧c 3=Gk d∧c 4=Gk e∧c 6=Gi p∧c 7=Gk ax∧c 8= .bool false∧c 9= .string (⟨#[]⟩:ByteArray)∧c 62= .bool ej∧qcj fu ar ao aw p cx ej=some r) ?_ ?_;refine Q1<|Zj b2<|Qa (V5 rfl rfl)<|Qa (Qd (.bool (decide (p≥0))) rfl) ?_;rcases ic a with ⟨fo,a⟩ | ⟨fo,a⟩<;>rw [fo];refine Qg rfl rfl (Qd _ b2)<|Qg rfl rfl (Zt rfl rfl)<|Qa (Zn (.bool (decide (p<6))) rfl rfl)<|Qj ?_;exact ⟨ad,(decide (p<6)),(Qc _ _ _),b,ef,eg,b2,rfl,rfl,rfl,rfl,a⟩;refine Qw 3 rfl<|Qj ?_;exact ⟨ad,false,(Qc _ _ _),b,ef,eg,b2,rfl,rfl,rfl,rfl,a⟩;rintro _ _ ⟨b7,ej,c4,b,fp,b8,b9,ek,hc,hd,he,a⟩;replace aa:=Zf c4 aa;replace b5:=Zf c4 b5;rw [qcj] at a;refine Q6 a he (fun hf a=>?_) fun hf a=>?_;refine Yp [Gp e h 45] [] Z2 b fun ly b hg q=>Qv 0 rfl (Qd _ b8) q<|Qv 1 rfl (Qd _ b9) q<|Qv 2 rfl (Q9 rfl) q<|Qv 3 rfl (Qi q02 rfl) q ?_;obtain ⟨hh,hi,a⟩:=Qm a;refine Qv 4 rfl (Zb q8f rfl rfl hh hi) q ?_;obtain ⟨_,hj,a⟩:=Qb a;have el:=(vp (k:=201) rfl rfl (V7 (rr aa)) hj);refine Yx 5 rfl (Za Vh rfl (Yl 0 rfl) (X5 el)) q<|Qv 6 rfl (Qd _ b8) q<|Qv 7 rfl (Qd _ b9) q<|Qv 8 rfl (Q9 rfl) q<|Qv 9 rfl (Qi q03 rfl) q ?_;obtain ⟨hk,hl,a⟩:=Qm a;refine Qv 10 rfl (Zb J7 rfl rfl hk hl) q ?_;obtain ⟨em,hm,a⟩:=Qb a;refine Yx 11 rfl (Qh (.bool em) Jf rfl (Yl 0 rfl) (vp (k:=1) rfl rfl (Kl (rr aa)) hm)) q<|Qv 12 rfl (Qd _ b8) q<|Qv 13 rfl (Qd _ b9) q<|Qv 14 rfl (Q9 rfl) q<|Qv 15 rfl (Qi Xd rfl) q ?_;obtain ⟨hn,ho,a⟩:=Qm a;refine Qv 16 rfl (Zb Xb rfl rfl hn ho) q ?_;obtain ⟨en,hp,a⟩:=Qb a;refine Yx 17 rfl (Qh (.string en) ts9 rfl (Yl 0 rfl) (vp (k:=1) rfl rfl (Vg (rr aa)) hp).1) q ?_;obtain ⟨hq,hr,a⟩:=Qb a;refine w1 18 rfl<|Z3 0 201 b rfl b5 ek rfl el rfl rfl (Lf (rr b5) el) hr fun hs l0 ht l1 l2 b=>Yj b hg fun fq=>Qv 19 rfl (Qf (.bool em) rfl) fq<|Qv 20 rfl (Qf (.string en) rfl) fq<|wd<|Qe ?_;exact ⟨b7,hs,hq,em,en,c4,b,ht,fp,b8,b9,ek,rfl,rfl,a⟩;refine Qk<|Qe ?_;exact ⟨b7,(Zr.zc GNode),(Zr.zd:GNode),false,(⟨#[]⟩:ByteArray),c4,b,b5,fp,b8,b9,ek,hc,hd,a⟩;rintro _ _ ⟨c3,ay,eh,ei,b6,eo,b,ep,ca,er,cb,hu,hv,hw,a⟩;replace ag:=Zf eo ag;rw [qdb] at a;refine Qy<|Zj ca<|Zj cb ?_;obtain ⟨bh,hx,a⟩:=Qb a;refine Ql (Yg (vs:=[Gk d,Gi p]) (L:=[Gp d z 89]) (R:=[Gp ax ay 37,Gp e h 45,.row m 9 1,.stk i 62 24 l,.stk ab 9 1 af]) (rv:=(fun n u L'=>∃ c0,u= .tuple #[Gj c0,.bool bh.2]∧L'=[Gp d z 89]∧rep n c0 bh.1)) cb12 (Z4 rfl rfl) b (b.sel [4,0,1,2,3,5] Gg rfl) (fun b=>q9a b ag hx) ?_);rintro _ c5 _ _ c6 ⟨fr,rfl,hy,fs⟩ b;replace b:=b _ hy;replace ag:=Zf c6 ag;replace be:=Zh (eo.1.trans c6.1) be;replace ep:=Zf c6 ep;refine Qa (Qd (.tuple #[Gj fr,.bool bh.2]) rfl)<|Qa (Q3 (v:= Gj fr) rfl rfl)<|Qa (Q3 (v:= .bool bh.2) rfl rfl) ?_;refine Ql (Zl Ut b ?_);intro es _ _ b;have ft:rep c5 (Zr.zc GNode) (Zr.zd:GNode):=Zr.zr;obtain ⟨_,h0,a⟩:=Qb a;refine Ql (Z7 0 201 b ft fs (Lf (rr ft) fs) h0 ?_);intro c7 _ h1 _ _ b;refine Qa (Qf (.bool bh.2) rfl)<|Qj ?_;refine Qp (fun c g=>∃ cc bi c8 et,Gl w c5 cc∧Gm w cc [Gp es c7 37,Gp d bi 89,Gp ax ay 37,Gp e h 45,.row m 9 1,.stk i 62 24 l,.stk ab 9 1 af] g∧rep cc bi c8∧sl bi (0+1993) 1=[ab]∧c 3=Gk d∧c 4=Gk e∧c 6=Gi p∧c 102= .bool et∧qda aw p cx c8 et=some r) ?_ ?_;refine Q1 ?_;have fv:=(rr h1);refine Qa (Za Vh rfl (b.bvB 0 rfl) (X5 fv)) ?_;have fw:=(rr ep);refine Qa (Za Vh hu (b.bvB 2 rfl) (X5 fw)) ?_;obtain ⟨fx,h2,a⟩:=Qb a;refine Ql<|Zi (vs:=[Gj (sl c7 (0) 201),Gj (sl ay (0) 201)]) (v:= .bool fx) cb13 (Z4 rfl rfl) b (q35 b.agree fv fw h2) fun me b=>Qa (Yb rfl)<|Qa (Qd (.bool (!fx)) rfl) ?_;rcases ic a with ⟨fy,a⟩ | ⟨fy,a⟩<;>rw [fy];refine Qw 11 rfl<|Qj ?_;exact ⟨c5,z,ao,true,(Qc _ _ _),b,ag,cw,ca,er,cb,rfl,a⟩;refine Qg rfl rfl (Qd (.bool bh.2) rfl)<|Qg rfl rfl (Qd _ hv)<|Qg rfl rfl (q7q rfl rfl V4)<|Qw 2 rfl ?_;rcases ic a with ⟨fz,a⟩ | ⟨fz,a⟩<;>rw [fz];refine Qw 6 rfl<|Qj ?_;exact ⟨c5,z,ao,true,(Qc _ _ _),b,ag,cw,ca,er,cb,rfl,a⟩;refine Qg rfl rfl (Qd _ ca)<|Qg rfl rfl (Qd _ cb) ?_;obtain ⟨eu,h3,a⟩:=Qb a;refine Vs rfl rfl (Yg (vs:=[Gk d,Gi p]) (L:=[Gp d z 89]) (R:=[Gp es c7 37,Gp ax ay 37,Gp e h 45,.row m 9 1,.stk i 62 24 l,.stk ab 9 1 af]) (rv:=(fun n u L'=>u= .string eu∧L'=[Gp d z 89])) cb14 (Z4 rfl rfl) b (b.sel [1,0,2,3,4,5,6] Gg rfl) (fun b=>zbj b ag h3) ?_);rintro _ h4 _ _ f0 ⟨rfl,h5⟩ b;replace b:=b _ h5;replace ag:=Zf f0 ag;refine Qg rfl rfl (Qd _ hw)<|Qg rfl rfl (zcl rfl rfl)<|Qa (Q7 (.bool (!(eu.toList==b6.toList))) rfl rfl)<|Qj ?_;exact ⟨h4,z,ao,(!(eu.toList==b6.toList)),f0,(b.sel (H':=[Gp es c7 37,Gp d z 89,Gp ax ay 37,Gp e h 45,.row m 9 1,.stk i 62 24 l,.stk ab 9 1 af]) [1,0,2,3,4,5,6] Gg rfl),ag,cw,ca,er,cb,rfl,a⟩;rintro _ _ ⟨cc,bi,c8,et,f1,b,h6,h7,h8,h9,ia,ib,a⟩;replace be:=Zh f1.1 be;rw [qda] at a;refine Q6 a ib (fun ie a=>?_) fun ie a=>?_;refine Qy<|Qa (Qf (.bool false) rfl)<|Qj ?_;cases a;exact Q2 (Yk rfl rfl ⟨rfl,b.kept⟩);refine Qk<|Q8<|Qe ?_;exact ⟨cc,bi,c8,ab,af,aw,(eo.trans (c6.trans f1)),(b.sel (H':=[Gp e h 45,.row m 9 1,.stk i 62 24 l,Gp d bi 89,.stk ab 9 1 af]) [3,4,5,1,6] Gg rfl),h6,be,h7,h8,h9,ia,a⟩;rintro _ _ ⟨bg,b3,cy,b4,c1,c2,ig,b,ih,ii,ij,ik,il,im,a⟩;rw [qgj] at a;refine Q1<|Zj im<|Qa (Zu rfl rfl)<|Qa (Qf (Gi (Gr (p+1))) rfl)<|Qj ?_;exact ⟨bg,b3,cy,b4,c1,c2,(Gr (p+1)),(ee.trans ig),b,ih,ii,ij,ik,il,rfl,(by rw [← fn];exact a)⟩;refine Zp<|Qr<|Qr<|Zq<|Qe<|Qt<|Qy<|Qa (Qf (Gi (-1)) rfl)<|Qj<|Qs ?_;refine Zy (fun ev c g=>∃ aj al bj ap az bk t,Gl w ad aj∧Gm w aj [Gp e h 45,.row m 9 1,.stk i 62 24 l,Gp d al 89,.stk ap 9 1 az] g∧rep aj al bj∧skr aj ap az bk∧sl al (0+1993) 1=[ap]∧c 3=Gk d∧c 4=Gk e∧c 12=Gi t∧qaz fu ae ev bj bk t=some r) fu ?_ ?_ ?_;exact ⟨ad,z,ao,ab,af,aw,((-1):Int),(Qc _ _ _),b,ag,be,cw,ef,eg,rfl,a⟩;rintro c g ⟨_,_,_,_,_,_,_,_,_,_,_,_,_,_,_,a⟩;rw [qaz] at a;cases a;intro ev;rintro _ _ ⟨aj,al,bj,ap,az,bk,t,f2,b,bl,ew,io,f3,ex,cd,a⟩;replace y:=Zh f2.1 y;rw [qaz] at a;obtain ⟨ey,f4⟩:∃ f,f=qaz fu ae ev:=⟨_,rfl⟩;rw [← f4] at a;refine Qt<|Qy<|Zj cd<|Qa (q22 rfl rfl)<|Qj ?_;refine Q6 a rfl (fun ip a=>?_) fun ip a=>?_;refine Qk<|Qe ?_;refine Qp (fun c g=>∃ bm ce c9 cf da db,Gl w aj bm∧Gm w bm [Gp e h 45,.row m 9 1,.stk i 62 24 l,Gp d ce 89,.stk cf 9 1 da] g∧rep bm ce c9∧skr bm cf da db∧sl ce (0+1993) 1=[cf]∧c 3=Gk d∧c 4=Gk e∧c 12=Gi t∧qgk t ey c9 db=some r) ?_ ?_;refine Qs<|Qy ?_;refine Ql (Zl U7 b ?_);intro bn _ _ b;have cg:rep aj (Zr.zc GCase) (Zr.zd:GCase):=Zr.zr;refine Qj ?_;refine Qp (fun c g=>∃ dc bo ez,Gl w aj dc∧Gm w dc [Gp bn bo 62,Gp e h 45,.row m 9 1,.stk i 62 24 l,Gp d al 89,.stk ap 9 1 az] g∧rep dc bo ez∧c 3=Gk d∧c 4=Gk e∧c 12=Gi t∧c 13=Gk bn∧qcl fu bj bk t ey ez=some r) ?_ ?_;refine Qp (fun c g=>∃ ch e0,Gl w aj ch∧Gm w ch [Gp bn (Zr.zc GCase) 62,Gp e h 45,.row m 9 1,.stk i 62 24 l,Gp d al 89,.stk ap 9 1 az] g∧c 3=Gk d∧c 4=Gk e∧c 12=Gi t∧c 13=Gk bn∧c 117= .bool e0∧qb4 fu ae bj bk t ey e0=some r) ?_ ?_;refine Q1<|Zj cd<|Qa (V5 rfl rfl)<|Qa (Qd (.bool (decide (t≥0))) rfl) ?_;rcases ic a with ⟨f5,a⟩ | ⟨f5,a⟩<;>rw [f5];refine Qg rfl rfl (Qd _ cd)<|Qg rfl rfl (Qd _ ex)<|Qg rfl rfl (Q9 rfl)<|Qg rfl rfl (Qi Ua rfl)<|Qg rfl rfl (Qh i q8g rfl (b.bvB 1 rfl) ea) ?_;obtain ⟨_,_,iq,_⟩:=Vw y;refine Qg rfl rfl (Zo K1 (Vz iq rfl))<|Qg rfl rfl (Zt rfl rfl)<|Qa (Zn (.bool (decide (t<(ae.length:Int)))) rfl rfl)<|Qj ?_;exact ⟨aj,(decide (t<(ae.length:Int))),(Qc _ _ _),b,f3,ex,cd,rfl,rfl,a⟩;refine Qw 8 rfl<|Qj ?_;exact ⟨aj,false,(Qc _ _ _),b,f3,ex,cd,rfl,rfl,a⟩;rintro _ _ ⟨ch,e0,dd,b,f6,e1,e2,e3,ir,a⟩;replace y:=Zh dd.1 y;replace cg:=Zf dd cg;rw [qb4] at a;refine Q6 a ir (fun iu a=>?_) fun iu a=>?_;refine Q1<|Zj e1<|Qa (Q9 rfl)<|Qa (Qi Ua rfl)<|Qa (Qh i q8g rfl (b.bvB 1 rfl) ea)<|Zj e2 ?_;obtain ⟨iv,iw,a⟩:=Qb a;obtain ⟨_,ix,_,iy,iz,i0,i1,e4⟩:=Ui (b.skv (j:=3) rfl y) iw;replace e4:rep _ (sl l (ix+Int.toNat t*24) 24) iv:=e4;refine Qa (Yr zfp rfl iy rfl iz i0) ?_;have e5:=e4;refine Qa (Za Y8 rfl (b.bvK (j:=3) rfl i1) (X5 e5)) ?_;obtain ⟨i2,i3,a⟩:=Qb a;refine Ql<|Z3 0 24 b rfl cg e3 rfl e5 rfl rfl (Lf (rr cg) e5) i3 fun i4 mw i5 mx my b=>Qj ?_;exact ⟨ch,i4,i2,dd,b,i5,f6,e1,e2,e3,a⟩;refine Qk<|Qe ?_;exact ⟨ch,(Zr.zc GCase),(Zr.zd:GCase),dd,b,cg,f6,e1,e2,e3,a⟩;rintro _ _ ⟨dc,bo,ez,e6,b,i6,f7,i7,f8,i8,a⟩;replace bl:=Zf e6 bl;rw [qcl] at a;refine Qt<|Yp [Gp bn bo 62] [] Z2 b fun m1 b ga e7=>Qv 0 rfl (Qd _ f7) e7<|Qv 1 rfl (Qd _ f8) e7 ?_;have de:=(rr i6);refine Yx 3 rfl (Za Y8 i8 (Yl 0 rfl) (X5 de)) e7 ?_;obtain ⟨i9,ja,a⟩:=Qb a;refine w1 2 rfl (Yg (vs:=[Gk d,Gi t]) (L:=[Gp d al 89]) (R:=[Gp bn bo 62,Gp e h 45,.row m 9 1,.stk i 62 24 l,.stk ap 9 1 az]) (rv:=(fun n u L'=>∃ c0,u=Gj c0∧L'=[Gp d al 89]∧rep n c0 i9)) cb16 (Z4 rfl rfl) b (b.sel [4,0,1,2,3,5] Gg rfl) (fun b=>q9b b bl ja) ?_);rintro _ jb _ _ bp ⟨jc,rfl,jd,je⟩ b;replace b:=b _ jd;replace bl:=Zf bp bl;replace ew:=Zh (e6.1.trans bp.1) ew;replace de:=Zf bp de;refine Yj b (ga.trans bp) fun m5=>?_;obtain ⟨jf,jg,a⟩:=Qb a;refine w1 4 rfl<|Zi (vs:=[Gj jc,Gj (sl bo (0) 24)]) (v:= .bool jf) cb15 (Z4 rfl rfl) b (qu7 b.agree je de jg) fun m6 b=>Yj b (ga.trans bp) fun jh=>Qv 5 rfl (Yb rfl) jh<|wd<|Qe ?_;refine Q6 a rfl (fun ji a=>?_) fun ji a=>?_;refine Qy<|Qa (Qf (.bool false) rfl)<|Qj ?_;cases a;exact Q2 (Yk rfl rfl ⟨rfl,b.kept⟩);refine Qk<|Q8<|Qe ?_;exact ⟨jb,al,bj,ap,az,bk,(e6.trans bp),(b.sel (H':=[Gp e h 45,.row m 9 1,.stk i 62 24 l,Gp d al 89,.stk ap 9 1 az]) [2,3,4,0,5] Gg rfl),bl,ew,io,f7,i7,f8,a⟩;rintro _ _ ⟨bm,ce,c9,cf,da,db,jj,b,jk,jl,jm,jn,jo,jp,a⟩;rw [qgk] at a;refine Q1<|Zj jp<|Qa (Zu rfl rfl)<|Qa (Qf (Gi (Gr (t+1))) rfl)<|Qj ?_;exact ⟨bm,ce,c9,cf,da,db,(Gr (t+1)),(f2.trans jj),b,jk,jl,jm,jn,jo,rfl,(by rw [← f4];exact a)⟩;refine Zp<|Qr<|Qr<|Zq<|Qe<|Qy<|Qa (Qf (.bool true) rfl)<|Qj ?_;cases a;exact Q2 (Yk rfl rfl ⟨rfl,b.kept⟩);rintro _ _ ⟨b0,bq,b,df,dg,dh,di,a⟩;replace an:=Qo bq.1 an;replace aa:=Zf bq aa;replace bb:=Zf bq bb;replace bc:=Zh bq.1 bc;replace y:=Zh bq.1 y;rw [qgi] at a;refine Qp (fun c g=>∃ a0 br dj ci dk cj dl dm ck dn dp dq,Gl w b0 a0∧Gm w a0 [Gp e br 45,.row dq 9 1,.stk ck 62 24 dn,Gp d ci 89,.stk cj 9 1 dl] g∧rep a0 br dj∧rep a0 ci dk∧skr a0 cj dl dm∧sl ci (0+1993) 1=[cj]∧skr a0 ck dn dp∧sl br (1224) 1=[ck]∧sl br (1225) 1=[dq]∧c 0=aq∧c 3=Gk d∧c 4=Gk e∧c 5=Gi o∧qgh o cv dj dk dm dp=some r) ?_ ?_;refine Qs ?_;refine Qp (fun c g=>∃ a1 bs dr cl ds cm dt du cn dv dw dx e8,Gl w b0 a1∧Gm w a1 [Gp e bs 45,.row dx 9 1,.stk cn 62 24 dv,Gp d cl 89,.stk cm 9 1 dt] g∧rep a1 bs dr∧rep a1 cl ds∧skr a1 cm dt du∧sl cl (0+1993) 1=[cm]∧skr a1 cn dv dw∧sl bs (1224) 1=[cn]∧sl bs (1225) 1=[dx]∧c 0=aq∧c 3=Gk d∧c 4=Gk e∧c 5=Gi o∧c 52= .bool e8∧qeh o cv dr ds du dw e8=some r) ?_ ?_;refine Yp [Gp e h 45] [11] Z2 b fun nb b jq am=>Qv 0 rfl (Qd _ dg) am<|Qv 1 rfl (Qd _ df) am<|Qv 2 rfl (Qd _ di) am ?_;obtain ⟨_,_,jr,_,js,jt,ju,jv,jw,jx,a⟩:=Yc 4 an a;refine Qv 3 rfl (Yr il22 rfl jt rfl ju jv) am ?_;have gb:=jx;refine wlC (inL [5,11,12,14]) 4 rfl (Za zg8 rfl (zcf jw) (X5 gb)) am<|Qv 6 rfl (Qd _ dh) am<|Qv 7 rfl (Qd _ df) am<|Qv 8 rfl (Qd _ di) am ?_;obtain ⟨_,_,jy,_,jz,j0,j1,j2,j3,j4,a⟩:=Yc 4 an a;refine Qv 9 rfl (Yr il22 rfl j0 rfl j1 j2) am ?_;have dy:=j4;refine Yx 10 rfl (Za zg8 rfl (zcf j3) (X5 dy)) am ?_;obtain ⟨bu,j5,a⟩:=Qb a;refine w1 5 rfl (Yg (vs:=[Gk d,Gj (sl js (jr+Int.toNat o*4) 4)]) (L:=[Gp d au 89,.stk av 9 1 a4]) (R:=[Gp e h 45,.row m 9 1,.stk i 62 24 l]) (rv:=(fun n u L'=>∃ c0 k0 u1 s,u=Gj c0∧L'=[Gp d k0 89,.stk u1 9 1 s]∧rep n c0 bu.1∧rep n k0 bu.2.1∧skr n u1 s bu.2.2∧sl k0 1993 1=[u1])) cb9 (Z4 rfl rfl) b (b.sel [3,4,0,1,2] Gg rfl) (fun b=>zdo b bb bc fg gb j5) ?_);rintro _ _ _ _ bv ⟨j6,a3,dz,d0,rfl,j7,e9,a5,d1,gc⟩ b;replace b:=b _ j7;replace aa:=Zf bv aa;replace y:=Zh bv.1 y;replace dy:=Zf bv dy;refine Yj b (jq.trans bv) fun nn=>?_;obtain ⟨a6,j8,a⟩:=Qb a;refine w1 11 rfl (Yg (vs:=[Gk e,Gj (sl jz (jy+Int.toNat o*4) 4)]) (L:=[Gp e h 45,.stk i 62 24 l,.row m 9 1]) (R:=[Gp d a3 89,.stk dz 9 1 d0]) (rv:=(fun n u L'=>∃ c0 k0 u1 s u2,u=Gj c0∧L'=[Gp e k0 45,.stk u1 62 24 s,.row u2 9 1]∧rep n c0 a6.1∧rep n k0 a6.2.1∧skr n u1 s a6.2.2∧sl k0 1224 1=[u1]∧sl k0 1225 1=[u2])) cb7 (Z4 rfl rfl) b (b.sel [2,4,3,0,1] Gg rfl) (fun b=>zd9 b aa y ea g5 dy j8) ?_);rintro _ j9 _ _ co ⟨ka,bw,cp,cq,a7,rfl,kb,kc,cr,d2,gf,d3⟩ b;replace b:=b _ kb;replace e9:=Zf co e9;replace a5:=Zf co a5;replace d1:=Zh co.1 d1;refine ⟨nB,?_⟩;obtain ⟨gg,kd,a⟩:=Qb a;refine w1 12 rfl<|Zi (vs:=[Gj j6,Gj ka]) (v:= .bool gg) cb6 (Z4 rfl rfl) b (q2y b.agree e9 kc kd) fun ns b=>⟨nB,?_⟩;refine wy 13 rfl (Yb rfl) nB<|wy 14 rfl (Qd (.bool (!gg)) rfl) nB ?_;rcases ic a with ⟨gh,a⟩ | ⟨gh,a⟩<;>rw [gh];refine Vn 15 (j:=14) rfl rfl rfl rfl nB<|Vn 16 (j:=14) rfl rfl rfl rfl nB<|Vn 17 (j:=14) rfl rfl rfl rfl nB<|Vn 18 (j:=14) rfl rfl rfl rfl nB<|Vn 19 (j:=14) rfl rfl rfl rfl nB<|Vn 20 (j:=14) rfl rfl rfl rfl nB<|Vn 21 (j:=14) rfl rfl rfl rfl nB<|Vn 22 (j:=14) rfl rfl rfl rfl nB<|wy 23 rfl (Zn (.bool true) rfl rfl) nB<|wd<|Qe ?_;exact ⟨j9,bw,a6.2.1,a3,bu.2.1,dz,d0,bu.2.2,cp,cq,a6.2.2,a7,true,(bv.trans co),(b.sel (H':=[Gp e bw 45,.row a7 9 1,.stk cp 62 24 cq,Gp d a3 89,.stk dz 9 1 d0]) [0,2,1,3,4] Gg rfl),cr,a5,d1,gc,d2,gf,d3,df,dg,dh,di,rfl,a⟩;refine Km 15 rfl rfl rfl (Qd _ dg) nB<|Km 17 rfl rfl rfl (Qd _ dh) nB<|Km 18 rfl rfl rfl (Q9 rfl) nB<|Km 19 rfl rfl rfl (Qi Ux rfl) nB<|zd8 [Gp e bw 45] [] b fun gi ke=>?_;obtain ⟨_,kf,d4⟩:=(Vv (rr cr));rw [Y6 kf d3] at d4;refine Jz 20 rfl rfl rfl (Qh a7 X3 rfl (Yl 0 rfl) d3) ke ?_;obtain ⟨fa,kg,a⟩:=Qb a;refine w1g 16 rfl rfl rfl (Yg (vs:=[Gk d]) (L:=[Gp d a3 89,.stk dz 9 1 d0]) (R:=[Gp e bw 45,.stk cp 62 24 cq,.row a7 9 1]) (rv:=(fun n u L'=>∃ v0 u1 s,u=v0∧L'=[Gp d a3 89,.stk u1 9 1 s]∧repL n v0 fa.1∧skr n u1 s fa.2∧sl a3 1993 1=[u1])) cb11 (Zm rfl) b (b.sel [3,4,0,1,2] Gg rfl) (fun b=>zbk b a5 d1 gc kg) ?_);rintro kh ki _ _ a8 ⟨_,gk,gl,rfl,kj,kk,kl,km⟩ b;replace b:=b _ kj;replace a5:=Zf a8 a5;replace cr:=Zf a8 cr;replace d2:=Zh a8.1 d2;replace d4:=Qo a8.1 d4;refine Yj b (gi.trans a8) fun nx=>?_;obtain ⟨fb,kn,a⟩:=Qb a;refine w1g 21 rfl rfl rfl<|Zi (vs:=[kh,a7]) (v:= .bool fb) cb10 (Z4 rfl rfl) b (qwu b.agree kk d4 kn) fun ny b=>Yj b (gi.trans a8) fun gm=>Km 22 rfl rfl rfl (Yb rfl) (fun _=>gm)<|Qv 23 rfl (Q7 (.bool (!fb)) rfl rfl) gm<|wd<|Qe ?_;exact ⟨ki,bw,a6.2.1,a3,bu.2.1,gk,gl,fa.2,cp,cq,a6.2.2,a7,(!fb),(bv.trans (co.trans a8)),(b.sel (H':=[Gp e bw 45,.row a7 9 1,.stk cp 62 24 cq,Gp d a3 89,.stk gk 9 1 gl]) [2,4,3,0,1] Gg rfl),cr,a5,kl,km,d2,gf,d3,df,dg,dh,di,rfl,a⟩;rintro _ _ ⟨a1,bs,dr,cl,ds,cm,dt,du,cn,dv,dw,dx,e8,ko,b,kp,kq,kr,ks,kt,ku,kv,kw,kx,ky,kz,k1,a⟩;rw [qeh] at a;refine Q6 a k1 (fun k2 a=>?_) fun k2 a=>?_;refine Qy<|Qa (Qf (.bool false) rfl)<|Qj ?_;cases a;exact Q2 (Yk rfl rfl ⟨rfl,b.kept⟩);refine Qk<|Q8<|Qe ?_;exact ⟨a1,bs,dr,cl,ds,cm,dt,du,cn,dv,dw,dx,ko,b,kp,kq,kr,ks,kt,ku,kv,kw,kx,ky,kz,a⟩;rintro _ _ ⟨a0,br,dj,ci,dk,cj,dl,dm,ck,dn,dp,dq,k3,b,k4,k5,k6,k7,k8,k9,la,lb,lc,ld,lf,a⟩;rw [qgh] at a;refine Q1<|Zj lf<|Qa (Zu rfl rfl)<|Qa (Qf (Gi (Gr (o+1))) rfl)<|Qj ?_;exact ⟨a0,br,dj,ci,dk,cj,dl,dm,ck,dn,dp,dq,(Gr (o+1)),(ff.trans (bq.trans k3)),b,k4,k5,k6,k7,k8,k9,la,lb,lc,ld,rfl,(by rw [← fj];exact a)⟩
theorem qwv {fu:Nat} {r:GReply}:qlc fu r r=some true:=by
 unfold qlc qfq;rw [qae (q0m rfl),qae (q0m rfl),qn8,qaa]
theorem qj9 {a:List ByteArray} (ha:a.length≤9000000000000000):∀ (n m k:Nat),a.length=k+m→m<n→qbl a a n k=some true
 | 0,m,k,_,h=>absurd h Gf
 | n+1,0,k,hk,_=>by rw [qbl,qad (qab Gf)]
 | n+1,m+1,k,hk,hn=>by
  obtain ⟨x,hx⟩:∃ x,a[k]? = some x:=⟨a[k],by simp⟩;have:=qj9 ha n m (k+1) Gf Gf;rw [qbl,qae (qac Gf),qap,hx,qaa,qaa,qad (by simp),qa3 Gf Gf];simpa using this
theorem qsa {a:List ByteArray} {fu:Nat} (ha:a.length≤9000000000000000) (hf:a.length<fu):qgg fu a a=some true:=by
 rw [qgg,qad (by simp)];exact qj9 ha fu a.length 0 Gf hf
theorem q7k {fu:Nat} {c:GCluster} {x:Int} (h:¬ (0≤x∧x<6)):qm6 fu c x=some (zeroN,false):=by
 unfold qm6;by_cases h0:x<0
 ·rw [qae (qac h0)];rfl
 ·rw [qad (qab h0),qac Gf];rfl
theorem zac {fu:Nat} {c:GCluster} {x:Int} (h:¬ (0≤x∧x<6)):qtd fu c x=some ⟨#[]⟩:=by
 unfold qtd;by_cases h0:x<0
 ·rw [qae (qac h0)];rfl
 ·rw [qad (qab h0),qac Gf];rfl
theorem qy4 {fu:Nat} {c:GCluster} {x:Int} (h:¬ (0≤x∧x<32)):qlw fu c x=some noC:=by
 unfold qlw;by_cases h0:x<0
 ·rw [qae (qac h0)];rfl
 ·rw [qad (qab h0),qac Gf];rfl
theorem qt2 {fu:Nat} (hfu:70000≤fu) {c:GCluster} {net:List ByteArray} {y:Int} {rec:GCluster→List ByteArray→Int→Option Bool} {x:GCase} (hc:qlw fu c y=some x) (hx:x.ops.length≤4):qcl fu c net y rec x=rec c net (Gr (y+1)):=by
 rw [qcl,hc,qaa,qw7 Gf Gf,qaa,qad (c := !true) rfl,qgk]
theorem qka {fu:Nat} (hfu:70000≤fu) {c:GCluster} {net:List ByteArray} {cs:List GCase} (h:CInv c net) (hno:∀ k:Nat,c.begun≤(k:Int)→k<32→qay c.cases k=noC) (hr:Ref c cs):∀ (n m k:Nat),k+m=34→m<n→qaz fu cs n c net ((k:Int)-1)=some true
 | 0,m,k,_,h=>absurd h Gf
 | n+1,0,k,hk,_=>by rw [qaz,qad (qab Gf)]
 | n+1,m+1,k,hk,hn=>by
  have ih:=qka hfu h hno hr n m (k+1) Gf Gf;have hw:Gr ((k:Int)-1+1)=((k+1:Nat):Int)-1:=by rw [qa3 Gf Gf];omega
  have hnz:noC.ops.length≤4:=by show ([]:List GOp).length≤4;simp
  have hlen:=hr.len;have h32:=h.begun;have hzero:qlw fu c ((k:Int)-1)=some noC→qb4 fu cs c net ((k:Int)-1) (qaz fu cs n) false=some true:=fun e=>by
   rw [qb4,cond_false];have:=qt2 hfu (net:=net) (rec:=qaz fu cs n) e hnz;rw [hw,ih] at this;exact this
  rw [qaz,qae (qac Gf)];by_cases h0:(k:Int)-1≥0
  ·rw [qae (qac h0)];by_cases h1:(k:Int)-1<(cs.length:Int)
   ·have hat:=hr.at (x:=(k:Int)-1) Gf Gf;have hg:=qqc (h.cas ((k:Int)-1).toNat Gf);rw [qac h1,qb4,cond_true,hat,qaa,qaa,qt2 hfu (qyx h Gf Gf) hg.1,hw,ih]
   ·rw [qab h1];refine hzero ?_;by_cases h2:(k:Int)-1<32
    ·rw [qyx h Gf h2,hno _ Gf Gf]
    ·exact qy4 Gf
  ·rw [qad (qab h0)];exact hzero (qy4 Gf)
theorem qww {fu:Nat} (hfu:70000≤fu) {c:GCluster} {net:List ByteArray} {y:Int} {rec:GCluster→List ByteArray→Int→Option Bool} {s:GNode} {b:Bool} {x:ByteArray} (hs:qm6 fu c y=some (s,b)) (hg:GoodN s) (hx:qtd fu c y=some x) :
 qdb fu c net y rec s b x=rec c net (Gr (y+1)):=by
 rw [qdb,hs,qaa,qaa,qxd hg.sizes Gf,qaa,qad (c := !true) rfl,qad (by simp),hx,qaa,qda,qad (by simp),qgj]
theorem qkb {fu:Nat} (hfu:70000≤fu) {c:GCluster} {net:List ByteArray} {cs:List GCase} (h:CInv c net) (hno:∀ k:Nat,c.begun≤(k:Int)→k<32→qay c.cases k=noC) (hr:Ref c cs):∀ (n m k:Nat),k+m=8→m<n→qa0 fu (toR c net) cs n c net ((k:Int)-1)=some true
 | 0,m,k,_,h=>absurd h Gf
 | n+1,0,k,hk,_=>by
  have:=qka hfu h hno hr fu 34 0 Gf Gf;rw [qa0,qad (qab Gf)];exact this
 | n+1,m+1,k,hk,hn=>by
  have ih:=qkb hfu h hno hr n m (k+1) Gf Gf;have hw:Gr ((k:Int)-1+1)=((k+1:Nat):Int)-1:=by rw [qa3 Gf Gf];omega
  have hzero:¬ (0≤(k:Int)-1∧(k:Int)-1<6)→qcj fu (toR c net) c net ((k:Int)-1) (qa0 fu (toR c net) cs n) false=some true:=fun e=>by
   rw [qcj,cond_false];have:=qww hfu (net:=net) (rec:=qa0 fu (toR c net) cs n) (q7k (fu:=fu) (c:=c) e) qh3 (zac e);rw [hw,ih] at this;exact this
  rw [qa0,qae (qac Gf)];by_cases h0:(k:Int)-1≥0
  ·rw [qae (qac h0)];by_cases h1:(k:Int)-1<6
   ·rw [qac h1,qcj,cond_true,qaj Gf h1,qaa,show (toR c net).nodes=c.nodes from rfl,qkh Gf h1,qaa,qaa,show (toR c net).down=c.down from rfl,qkh Gf h1,qaa,qaa,show (toR c net).logs=c.logs from rfl,qkh Gf h1,qaa,qaa,
     qww hfu (q7c Gf h Gf h1) (h.node _ Gf) (q95 Gf h1),hw,ih]
   ·rw [qab h1];exact hzero Gf
  ·rw [qad (qab h0)];exact hzero Gf
def NoC (c:GCluster):Prop:=∀ k:Nat,c.begun≤(k:Int)→k<32→qay c.cases k=noC
theorem NoC.setCase {c:GCluster} (h:NoC c) {i:Nat} (hi:(i:Int)<c.begun) (h32:i<32) (x:GCase):NoC { c with cases:=c.cases.setIfInBounds i x }:=fun k h1 h2=>by
 show qay (c.cases.setIfInBounds i x) k=noC;have h1:c.begun≤(k:Int):=h1;rw [qe7 h32,if_neg Gf];exact h k h1 h2
theorem NoC.frm {c:GCluster} {net:List ByteArray} (h:NoC c) (hi:CInv c net) (hw:WP c net) {a:GAct}:NoC (q0d c net a).2.1:=by
 unfold q0d;by_cases hx:0≤a.n∧a.n<net.length
 ·obtain ⟨h1,h2,h3⟩:=hw.sent.at hx;obtain ⟨_,_,h4⟩:=qds h1;rw [qac hx,cond_true];unfold frm2;cases (a.kind==4)
  ·rw [cond_false];cases ((qfd net a.n).kind==1||(qfd net a.n).kind==3)
   ·rw [cond_false];cases ((qby (qay c.cases (qfd net a.n).id.toNat) (qfd net a.n).id (qfd net a.n)).2.2 != 0)
    ·exact h.setCase Gf Gf _
    ·exact h
   ·have e:=qy1 (c:=c) (net:=bif a.kind==3 then net else net.eraseIdx a.n.toNat) (n:=(qfd net a.n).node.toNat) (f:=qfd net a.n) (s:=qjv net a.n);intro k k1 k2;rw [cond_true] at k1 ⊢;dsimp only at k1 ⊢;rw [e.2] at k1;rw [e.1];exact h k k1 k2
  ·exact h
 ·rw [qab hx];exact h
theorem NoC.do {c:GCluster} {net:List ByteArray} (h:NoC c) (hi:CInv c net) (hw:WP c net) {a:GAct}:NoC (q4m c net a).2.1:=by
 unfold q4m;by_cases ha:c.acts≥400
 ·rw [qae (qac ha)];exact h
 ·rw [qad (qab ha)];have h':NoC { c with acts:=c.acts+1 }:=h;have hi':=hi.act ha;have hw':WP { c with acts:=c.acts+1 } net:=⟨hw.vals,hw.sent⟩;generalize ({ c with acts:=c.acts+1 }:GCluster)=d at h' hi' hw';unfold doA;cases (a.kind==1)
  ·rw [cond_false];cases (a.kind==2||(a.kind==3||a.kind==4))
   ·rw [cond_false];cases (a.kind==5)
    ·rw [cond_false];cases (a.kind==6||(a.kind==7||a.kind==8))
     ·exact h'
     ·rw [cond_true];unfold q5v;cases q2o a
      ·exact h'
      ·rw [cond_true];cases (!(qay d.down a.n.toNat==(a.kind==8)))
       ·rw [cond_false];cases (a.kind==7)
        ·rw [cond_false];cases (a.kind==6)<;>exact h'
        ·exact h'
       ·exact h'
    ·rw [cond_true];unfold zd5;cases decide (0≤a.n∧a.n<d.begun)<;>exact h'
   ·exact h'.frm hi' hw'
  ·rw [cond_true];unfold q90;have hb:=hi'.begun;by_cases h32:d.begun≥32
   ·rw [qae (qac h32)];exact h'
   ·rw [qad (qab h32)];cases ((qer { id:=d.begun,ops:=a.ops }).2.2 != 0)
    ·intro k k1 k2;show qay (d.cases.setIfInBounds d.begun.toNat _) k=noC;have k1:d.begun+1≤(k:Int):=k1;rw [qe7 Gf,if_neg Gf];exact h' k Gf k2
    ·exact h'
theorem qkc {fu:Nat} (hfu:70000≤fu) {l:List GAct}:∀ (n m k:Nat) (c:GCluster) (net:List ByteArray) (cs:List GCase),k+m=150→m<n→CInv c net→WP c net→NoC c→Ref c cs→qbm fu l n (toR c net) c net cs k=some true
 | 0,m,k,_,_,_,_,h,_,_,_,_=>absurd h Gf
 | n+1,m,k,c,net,cs,hk,hn,h,hw,hc,hr=>by
  have hend:∀ rec,qck fu l (toR c net) c net cs k rec false=some true:=fun rec=>by
   rw [qck,cond_false];exact qkb hfu h hc hr fu 8 0 Gf Gf
  rw [qbm];by_cases h1:(k:Int)<(l.length:Int)
  ·rw [qae (qac h1)];by_cases h2:(k:Int)<150
   ·obtain ⟨m',rfl⟩:∃ m',m=m'+1:=⟨m-1,by omega⟩;have hlt:k<l.length:=by omega
    obtain ⟨cs',e,hr'⟩:=zbv hfu h hw hr (a:=l[k]);have hd:=h.do (a:=l[k]);have hn1:=hd.net.1;rw [qac h2,qck,cond_true,qgi,qap,X7 hlt,qaa,qaa,zbq hfu h,qaa,e,qaa,qwv,qaa,qad (c := !true) rfl];dsimp only;rw [q96 hd,qaa];dsimp only;rw [show (toR (q4m c net l[k]).2.1 (q4m c net l[k]).2.2).net=(q4m c net l[k]).2.2 from rfl,qsa Gf Gf,qaa,qeh,qad (c := !true) rfl,qgh,zg1 k Gf];exact qkc hfu n m' (k+1) _ _ cs' Gf Gf hd hw.do (hc.do h hw) hr'
   ·rw [qab h2];exact hend _
  ·rw [qad (qab h1)];exact hend _
theorem zbw:Ref q7b []:=⟨rfl,fun k hk=>absurd hk (Nat.not_lt_zero k)⟩
theorem zea:NoC q7b:=fun k _ _=>qju k
theorem clusterPlaysD_eq {fu:Nat} (hfu:fu=70000) {l:List GAct}:qir fu l=some true:=by
 unfold qir;rw [q93,qaa,qaa];exact qkc Gf fu 150 0 q7b [] [] Gf Gf zd6 zg7 zea zbw
theorem op3:Opn Tryz.prog 3 Int:=zd2 Tryz.underlying3 Gh
theorem op99:Opn Tryz.prog 99 GOp:=⟨by kernel_rfl,fun H enc w fuel cs d p h hw=>by
 have hl:cs.length=3:=by obtain ⟨_,_,_,_,hl,_⟩:=DataW.trod_struct Tryz.underlying99 h;rw [hl];kernel_rfl
 obtain ⟨x0,h0⟩:=qjs (α := Int) (o:=0) (k:=1) Tryz.underlying99 h hw 0 _ rfl rfl rfl Gh op3
 obtain ⟨x1,h1⟩:=qjs (α := Int) (o:=1) (k:=1) Tryz.underlying99 h hw 1 _ rfl rfl rfl Gh op3
 obtain ⟨x2,h2⟩:=qjs (α := Int) (o:=2) (k:=1) Tryz.underlying99 h hw 2 _ rfl rfl rfl Gh op3
 exact ⟨⟨x0,x1,x2⟩,GOp.fol ⟨hl,h0,h1,h2⟩⟩⟩
theorem op27:Opn Tryz.prog 27 (List (GOp)):=q2f Tryz.underlying27 Gh op99 Gg Gh
theorem op29:Opn Tryz.prog 29 GAct:=⟨by kernel_rfl,fun H enc w fuel cs d p h hw=>by
 have hl:cs.length=4:=by obtain ⟨_,_,_,_,hl,_⟩:=DataW.trod_struct Tryz.underlying29 h;rw [hl];kernel_rfl
 obtain ⟨x0,h0⟩:=qjs (α := Int) (o:=0) (k:=1) Tryz.underlying29 h hw 0 _ rfl rfl rfl Gh op3
 obtain ⟨x1,h1⟩:=qjs (α := Int) (o:=1) (k:=1) Tryz.underlying29 h hw 1 _ rfl rfl rfl Gh op3
 obtain ⟨x2,h2⟩:=qjs (α := Int) (o:=2) (k:=1) Tryz.underlying29 h hw 2 _ rfl rfl rfl Gh op3
 obtain ⟨x3,h3⟩:=qjs (α := List (GOp)) (o:=3) (k:=1) Tryz.underlying29 h hw 3 _ rfl rfl rfl Gh op27
 exact ⟨⟨x0,x1,x2,x3⟩,GAct.fol ⟨hl,h0,h1,h2,h3⟩⟩⟩
theorem op22:Opn Tryz.prog 22 (List (GAct)):=q2f Tryz.underlying22 Gh op29 Gg Gh
end Go.Proofs.YtaimhfbbenbdaaaGreat
