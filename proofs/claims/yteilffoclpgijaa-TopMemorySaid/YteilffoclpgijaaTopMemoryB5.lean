/- What the proof of TopMemory rests on, part 5: rules of walks, what functions compute, and plain laws of it. -/
import Derived.Test.YteilffoclpgijaaTopMemoryB4
namespace Go.Proofs.Yteilffoclpgijaa
open Go.RowKit
open Rep (rep)
theorem q2l {s:GNode} {who:Int} {f:GFrame} (h:(qde s who f).2.2≠0):(qde s who f).1=s∧(qde s who f).2.1=[]:=by
 unfold qde at *;cases hc:(qvb s&&(decide (0≤who∧who<6)&&f.node==who))
 ·exact ⟨rfl,rfl⟩
 ·rw [hc,cond_true] at h;rw [cond_true];cases hz:(qak f==0)
  ·exact ⟨rfl,rfl⟩
  ·rw [hz,cond_true] at h;rw [cond_true];unfold qpo at *;cases h1:(f.kind==1)
   ·rw [h1,cond_false] at h;cases h3:(f.kind==3)
    ·exact ⟨rfl,rfl⟩
    ·rw [h3,cond_true] at h;exact absurd rfl h
   ·rw [h1,cond_true] at h;cases ht:qah f.ops (ofZ who)
    ·exact ⟨rfl,rfl⟩
    ·rw [ht,cond_true] at h;exact absurd rfl h
theorem qwq {s:GNode} {who:Int} {f:GFrame} (hs:GoodN s) (hw:0≤who∧who<6) (hn:f.node=who) (hz:qak f=0):qde s who f=qpo s who f:=by
 unfold qde;rw [goodN_iff.2 hs,hz,qaf hw,hn];simp
theorem qts {s:GNode} {who:Int} {f:GFrame} (h1:f.kind=1) (ht:qah f.ops (ofZ who)=true):qpo s who f=(q3i s f (ofZ who),[q0s who f.id (eat (q3i s f (ofZ who)).entries f.id.toNat).first],0):=by
 unfold qpo;rw [qag (by simp [h1]),ht];rfl
theorem qmu {s:GNode} {who:Int} {f:GFrame} (h3:f.kind=3):qpo s who f=(qgi s f (ofZ who),qi2 (ofZ who) who f.id (qgi s f (ofZ who)),0):=by
 unfold qpo;rw [qad (by simp [h3]),qag (by simp [h3])]
theorem qwr {s:GNode} {who:Int} {f:GFrame} (h:(qde s who f).2.2=0):GoodN s∧(0≤who∧who<6)∧f.node=who∧qak f=0∧((f.kind=1∧qah f.ops (ofZ who)=true)∨f.kind=3):=by
 unfold qde at h;cases hc:(qvb s&&(decide (0≤who∧who<6)&&f.node==who))
 ·rw [hc] at h;exact absurd (show (2:Int)=0 from h) Ed
 ·rw [hc,cond_true] at h;simp only [Xn,decide_eq_true_eq,beq_iff_eq] at hc;cases hz:(qak f==0)
  ·rw [hz] at h;have h:qak f=0:=h;rw [h] at hz;cases hz
  ·rw [hz,cond_true] at h;refine ⟨goodN_iff.1 hc.1,hc.2.1,hc.2.2,by simpa using hz,?_⟩;unfold qpo at h;cases h1:(f.kind==1)
   ·rw [h1,cond_false] at h;cases h3:(f.kind==3)
    ·rw [h3] at h;exact absurd (show (3:Int)=0 from h) Ed
    ·exact .inr (by simpa using h3)
   ·rw [h1,cond_true] at h;cases ht:qah f.ops (ofZ who)
    ·rw [ht] at h;exact absurd (show (4:Int)=0 from h) Ed
    ·exact .inl ⟨by simpa using h1,rfl⟩
structure Ex (s t:GNode):Prop where
 ent:∀ k,k<32→eat t.entries k=eat s.entries k∨((eat s.entries k).state=2∧∃ a b,eat t.entries k=qgz (eat s.entries k) a b)
 order:∃ L,t.order=s.order++L
theorem Ex.refl (s:GNode):Ex s s:=⟨fun _ _ => .inl rfl,[],by simp⟩
theorem Ex.trans {s t u:GNode} (h:Ex s t) (k:Ex t u):Ex s u:=by
 refine ⟨fun j hj=>?_,?_⟩
 ·rcases h.ent j hj with e | ⟨e2,a,b,e⟩
  ·rcases k.ent j hj with e' | ⟨e2',a,b,e'⟩
   ·exact .inl (e'.trans e)
   ·rw [e] at e2' e';exact .inr ⟨e2',a,b,e'⟩
  ·rcases k.ent j hj with e' | ⟨e2',_⟩
   ·exact .inr ⟨e2,a,b,e'.trans e⟩
   ·rw [e] at e2';exact absurd (show (3:Int)=2 from e2') Ed
 ·obtain ⟨L,h1⟩:=h.order;obtain ⟨L',h2⟩:=k.order;exact ⟨L++L',by rw [h2,h1,X8]⟩
theorem Ex.one {s:GNode} {n:Nat} (hn:n<32) (h2:(eat s.entries n).state=2) (sh:Int):Ex s (q7g s n sh):=by
 refine ⟨fun k hk=>?_,_,rfl⟩;show eat (s.entries.setIfInBounds n _) k=_∨_∧∃ a b,eat (s.entries.setIfInBounds n _) k=_;rw [qd3 hn];by_cases e:n=k
 ·subst e;rw [if_pos rfl];exact .inr ⟨h2,_,_,rfl⟩
 ·rw [if_neg e];exact .inl rfl
theorem Ex.step {s:GNode} {m:Nat} (hm:m<32) (sh:Int):Ex s (qvg sh s m):=by
 unfold qvg;cases h2:((eat s.entries m).state==2)
 ·exact .refl s
 ·exact .one hm (by simpa using h2) sh
theorem Ex.run (sh:Int):∀ (l:List Nat) (s:GNode),(∀ m∈l,m<32)→Ex s (q5n sh s l)
 | [],s,_ => .refl s
 | m::t,_,hl=>(Ex.step (hl m List.mem_cons_self) sh).trans (Ex.run sh t _ fun x hx=>hl x (List.mem_cons_of_mem _ hx))
theorem Ex.turn {s:GNode} {n:Nat} (hn:n<32) (g:GGraph) (sh:Int):Ex s (qrv g sh s n):=by
 unfold qrv;cases ((eat s.entries n).state==2)
 ·exact .refl s
 ·exact Ex.run sh _ s (qvi hn)
theorem Ex.turns (g:GGraph) (sh:Int):∀ (l:List Nat) (s:GNode),(∀ m∈l,m<32)→Ex s (l.foldl (qrv g sh) s)
 | [],s,_ => .refl s
 | m::t,_,hl=>(Ex.turn (hl m List.mem_cons_self) g sh).trans (Ex.turns g sh t _ fun x hx=>hl x (List.mem_cons_of_mem _ hx))
theorem Ex.exec (s:GNode) (sh:Int):Ex s (qvh s sh):=Ex.turns _ sh _ s fun m hm=>Ai.1 hm
structure Kp (x y:GEntry):Prop where
 state:x.state≤y.state
 first:x.state≠0→x.first=y.first
 body:2≤x.state→x.deps=y.deps∧x.ops=y.ops
 done:x.state=3→x=y
theorem Kp.refl (x:GEntry):Kp x x:=⟨Int.le_refl _,fun _=>rfl,fun _=>⟨rfl,rfl⟩,fun _=>rfl⟩
theorem Kp.trans {x y z:GEntry} (h0:0≤x.state) (h:Kp x y) (k:Kp y z):Kp x z:=by
 have h1:=h.state;refine ⟨Int.le_trans h.state k.state,fun hx=>(h.first hx).trans (k.first Ec),fun hx=>?_,fun hx=>?_⟩
 ·obtain ⟨a,b⟩:=h.body hx;obtain ⟨c,d⟩:=k.body Ec;exact ⟨a.trans c,b.trans d⟩
 ·have e:=h.done hx;rw [e];exact k.done (by rw [← e];exact hx)
structure KeepN (s t:GNode):Prop where
 ent:∀ k,k<32→Kp (eat s.entries k) (eat t.entries k)
 order:∃ L,t.order=s.order++L
theorem KeepN.refl (s:GNode):KeepN s s:=⟨fun _ _ => .refl _,[],by simp⟩
theorem qjo {s:GNode} {who:Int} {f:GFrame} (h:(qde s who f).2.2=0):GoodN (qde s who f).1:=by
 obtain ⟨hs,hw,hn,hz,hk⟩:=qwr h;rw [qwq hs hw hn hz];rcases hk with ⟨h1,ht⟩ | h3
 ·rw [qts h1 ht];exact hs.asked hz h1 _
 ·rw [qmu h3];exact hs.commit hz h3 _
theorem qvk {s:GNode} {who:Int} {f:GFrame} (h:(qde s who f).2.2=0):(qde s who f).2.1.length≤100∧∀ x∈(qde s who f).2.1,x.ops.length≤100∧x.deps.length≤100∧x.at_.length≤100∧x.vals.length≤100:=by
 have hz:=(qjo h).sizes;obtain ⟨hs,hw,hn,hf,hk⟩:=qwr h;rw [qwq hs hw hn hf] at hz ⊢;rcases hk with ⟨h1,ht⟩ | h3
 ·rw [qts h1 ht] at hz ⊢;have hz:NSz (q3i s f (ofZ who)) 33:=hz;refine ⟨by simp,fun x hx=>?_⟩;have hx:=Xu.1 hx;have:=(hz.ent f.id.toNat).first.1
  rw [hx];exact ⟨by simp [q0s],by show (eat _ _).first.length≤100;omega,by simp [q0s],by simp [q0s]⟩
 ·rw [qmu h3] at hz ⊢;have hz:NSz (qgi s f (ofZ who)) 33:=hz;have h1:=(hz.ent f.id.toNat).at_.1;have h2:=(hz.ent f.id.toNat).values.1;show (qi2 _ _ _ _).length≤100∧∀ x∈qi2 _ _ _ _,_;unfold qi2;have hkn:∀ x,x=qo1 who f.id→x.ops.length≤100∧x.deps.length≤100∧x.at_.length≤100∧x.vals.length≤100:=by
   rintro x rfl;exact ⟨by simp [qo1],by simp [qo1],by simp [qo1],by simp [qo1]⟩
  cases ((eat (qgi s f (ofZ who)).entries f.id.toNat).state==3&&qah (eat (qgi s f (ofZ who)).entries f.id.toNat).ops (ofZ who))
  ·exact ⟨by simp,fun x hx=>hkn x (Xu.1 hx)⟩
  ·refine ⟨by simp,fun x hx=>?_⟩;rcases Xm.1 hx with hx | hx
   ·exact hkn x hx
   ·have hx:=Xu.1 hx;rw [hx];exact ⟨by simp [q42],by simp [q42],by show (eat _ _).at_.length≤100;omega,by show (eat _ _).values.length≤100;omega⟩
noncomputable def qi3 (who:Int):List ByteArray→GNode→GNode × Int
 | [],s=>(s,0)
 | x::t,s=>bif (qod (byL x)).2 != 0 then (ql2,(qod (byL x)).2) else bif (qde s who (qod (byL x)).1).2.2 != 0 then (ql2,(qde s who (qod (byL x)).1).2.2) else qi3 who t (qde s who (qod (byL x)).1).1
theorem qmv {who:Int}:∀ (l:List ByteArray) {s:GNode},GoodN s→GoodN (qi3 who l s).1
 | [],_,h=>h
 | x::t,s,h=>by
  unfold qi3;cases h1:((qod (byL x)).2 != 0)
  ·rw [cond_false];cases h2:((qde s who (qod (byL x)).1).2.2 != 0)
   ·rw [cond_false];exact qmv t (qjo (by simpa using h2))
   ·exact qg0
  ·exact qg0
theorem qhy {fu:Nat} (hfu:300≤fu) {who:Int} {l:List ByteArray} (hl:l.length≤17592186043904) (hs:∀ x∈l,x.size≤140737488351232) (z:GNode):∀ (n m k:Nat) (s:GNode),l.length=k+m→m<n→GoodN s→qbt fu who l n s z k=some (qi3 who (l.drop k) s)
 | 0,m,k,_,_,h,_=>absurd h Ec
 | n+1,0,k,s,hk,_,_=>by
  rw [qbt,qad (qae Ec),qaa,List.drop_of_length_le Ec];rfl
 | n+1,m+1,k,s,hk,hn,hg=>by
  have hlt:k<l.length:=by omega
  have hx:=hs _ (A1 hlt);have ih:=fun s hg=>qhy hfu hl hs (who:=who) z n m (k+1) s Ec Ec hg;rw [qbt,qag (qaf Ec),qa5,Xl hlt,qaa,qqh Ec hx,qaa,qaa,X3 hlt];generalize l[k]=x;rw [qi3,wrs k Ec];cases h1:((qod (byL x)).2 != 0)
  ·rw [cond_false,cond_false,qmt hg.sizes Ec Ec,qaa,qaa];cases h2:((qde s who (qod (byL x)).1).2.2 != 0)
   ·rw [cond_false,cond_false];exact ih _ (qjo (by simpa using h2))
   ·rfl
  ·rfl
theorem qpq {fu:Nat} {who:Int} {l:List ByteArray} (hfu:l.length+300≤fu) (hl:l.length≤17592186043904) (hs:∀ x∈l,x.size≤140737488351232):qef fu who l=some (bif decide (0≤who∧who<6) then qi3 who l ql2 else (ql2,2)):=by
 unfold qef;rw [qqr,qaa];cases decide (0≤who∧who<6)
 ·rfl
 ·rw [qad (c := !true) rfl,cond_true];exact qhy Ec hl hs _ fu l.length 0 ql2 Ec Ec qg0
theorem q44 {f:GFrame} (hz:qak f=0):(qz2 f).2=0∧qod (byL (qz2 f).1)=(f,0)∧(qz2 f).1.size≤100:=by
 have hf:=qz1 hz;obtain ⟨hb,hl⟩:=q0x hf;have hby:=q43 hb;have hsz:=qko (strOfNums (qxk f));rw [hby] at hsz;have hpar:=q0w hf [];rw [Dc] at hpar;unfold qz2;rw [if_pos hz];refine ⟨rfl,?_,by show (strOfNums (qxk f)).size≤100;omega⟩;show qod (byL (strOfNums (qxk f)))=_;rw [hby];unfold qod;rw [hpar];show (bif qak f==0 then (f,0) else (noF,(1:Int)))=_;rw [hz];rfl
abbrev Du := @List.mem_of_mem_eraseIdx
abbrev D0 := @List.length_eraseIdx_le
section
variable {α : Type} [Rep α] [Zr α] {n:Nat}
def qbp (v:Vector α n) (k:Nat) : α := v[k]?.getD Zr.zd
theorem qmw {v:Vector α n} {j:Int} (h0:0≤j) (h1:j<n):qa3 v j=some (qbp v j.toNat):=by
 have h:j.toNat<n:=by omega
 unfold qa3 qbp;rw [if_pos h0];simp [h]
theorem qjp {v:Vector α n} {k j:Nat} {x : α} (hk:k<n):qbp (v.setIfInBounds k x) j=if k=j then x else qbp v j:=by
 unfold qbp;rw [Vector.getElem?_setIfInBounds];by_cases e:k=j
 ·rw [if_pos e,if_pos e,if_pos hk];rfl
 ·rw [if_neg e,if_neg e]
theorem qi4 [Pos α] (k:Nat):qbp (Zr.zd:Vector α n) k=Zr.zd:=by
 show qbp (Vector.replicate n Zr.zd) k=Zr.zd;unfold qbp;by_cases hk:k<n<;>simp [hk]
end
def qpr (e:Int):GReply:={ code:=e,n:=0,values:=[] }
def okR (n:Int) (v:List Int):GReply:={ code:=0,n:=n,values:=v }
def qln:List ByteArray→List GFrame→List ByteArray
 | net,[]=>net
 | net,f::t=>qln (bif qak f==0&&decide (net.length<60) then net++[(qz2 f).1] else net) t
theorem q0y (f:GFrame):(qz2 f).2=qak f:=by
 unfold qz2;split
 ·rename_i h;exact h.symm
 ·rfl
theorem qtt (f:GFrame):(qz2 f).1.size≤100:=by
 by_cases h:qak f=0
 ·exact (q44 h).2.2
 ·unfold qz2;rw [if_neg h];show (strOfNums []).size≤100;have:(strOfNums []).size=0:=rfl;omega
theorem qmx {fu:Nat} (hfu:40≤fu) {l:List GFrame} (hl:l.length≤1000) {c:GCluster}:∀ (n m k:Nat) (net:List ByteArray),l.length=k+m→m<n→qda fu l n c net k=some (c,qln net (l.drop k))
 | 0,m,k,_,_,h=>absurd h Ec
 | n+1,0,k,net,hk,_=>by
  rw [qda,qad (qae Ec),List.drop_of_length_le Ec];rfl
 | n+1,m+1,k,net,hk,hn=>by
  have hb:Rep.bytes ByteArray=16:=rfl;have hlt:k<l.length:=by omega
  have ih:=fun net=>qmx hfu hl (c:=c) n m (k+1) net Ec Ec;rw [qda,qag (qaf Ec),qa5,Xl hlt,qaa,qaa,qxo _ hfu,qaa,X3 hlt,q0y];generalize l[k]=f;simp only [qiq,qip,q5l k Ec,qln];have hs:=qtt f;cases h1:(qak f==0)
  ·rw [cond_false,cond_false,B5,cond_false,ih]
  ·rw [cond_true,Aa];by_cases h2:net.length<60
   ·rw [qaf Ec,qaf h2,cond_true,cond_true,qg9 Ec,qaa,qbs (by rw [hb];simp only [A2];omega),qaa,qaa];exact ih _
   ·rw [qae Ec,qae h2,cond_false,cond_false,ih]
theorem qjq {fu:Nat} (hfu:1100≤fu) {l:List GFrame} (hl:l.length≤1000) {c:GCluster} {net:List ByteArray}:qkk fu c net l=some (c,qln net l) :=
 qmx Ec hl fu l.length 0 net Ec Ec
theorem qkq:∀ (l:List GFrame) (net:List ByteArray),net.length≤60→(∀ s∈net,s.size≤400)→(qln net l).length≤60∧∀ s∈qln net l,s.size≤400
 | [],net,h1,h2=>⟨h1,h2⟩
 | f::t,net,h1,h2=>by
  rw [qln];cases hb:(qak f==0&&decide (net.length<60))
  ·exact qkq t net h1 h2
  ·simp only [Bool.and_eq_true,decide_eq_true_eq] at hb;refine qkq t _ (by simp;omega) fun s hs=>?_;rcases List.mem_append.1 hs with hs | hs
   ·exact h2 s hs
   ·rw [List.mem_singleton.1 hs];have:=qtt f;omega
structure CInv (c:GCluster) (net:List ByteArray):Prop where
 acts:0≤c.acts∧c.acts≤400
 begun:0≤c.begun∧c.begun≤32
 node:∀ n,n<6→GoodN (qbp c.nodes n)
 down:∀ n,n<6→qbp c.down n=true→qbp c.nodes n=ql2
 log:∀ n,n<6→(qbp c.logs n).size≤65536
 tear:∀ n,n<6→0≤qbp c.tear n∧qbp c.tear n≤401
 cas:∀ n,n<32→qdd (qbp c.cases n)=true
 net:net.length≤60∧∀ s∈net,s.size≤400
def qx3 (c:GCluster) (x:Int):GReply:=okR x (qdl (qbp c.cases x.toNat)).1
theorem qqs {fu:Nat} (hfu:7≤fu) {c:GCluster} {x:Int} (h0:0≤x) (h1:x<32):qir fu c x=some (qx3 c x):=by
 unfold qir;rw [qay h0 h1,qaa,qmw h0 h1,qaa,qpn hfu,qaa,qaa,qaa];rfl
def begC (c:GCluster) (ops:List GOp):GCluster:={ c with cases:=c.cases.setIfInBounds c.begun.toNat (qga { id:=c.begun,ops:=ops }).1,begun:=c.begun+1 }
def q45 (c:GCluster) (net:List ByteArray) (ops:List GOp):GReply × GCluster × List ByteArray :=
 bif decide (c.begun≥32) then (qpr 5,c,net) else
 bif (qga { id:=c.begun,ops:=ops }).2.2 != 0 then (qpr (qga { id:=c.begun,ops:=ops }).2.2,c,net) else
 (okR c.begun [],begC c ops,qln net (qga { id:=c.begun,ops:=ops }).2.1)
theorem qx4 (t:GTxn):(qga t).2.1.length≤6:=by
 unfold qga;cases decide (0≤t.id∧t.id<32)
 ·simp
 ·cases qao t.ops
  ·simp
  ·exact againC_small.1
theorem qvl {fu:Nat} (hfu:1100≤fu) {c:GCluster} {net:List ByteArray} (h:CInv c net) {ops:List GOp}:qhm fu c net ops=some (q45 c net ops):=by
 obtain ⟨h0,h1⟩:=h.begun;unfold qhm q45;by_cases h32:c.begun≥32
 ·rw [qag (qaf h32),qag (qaf h32)];rfl
 ·rw [qad (qae h32),qad (qae h32),qaa,qrq Ec,qaa,qaa];cases hc:((qga { id:=c.begun,ops:=ops }).2.2 != 0)
  ·have hl:=qx4 { id:=c.begun,ops:=ops };rw [cond_false,cond_false,qay h0 Ec,qaa,qmw h0 Ec,qaa,qbo h0 Ec,qaa,qaa];have e1:IntKind.wrap .i64 (c.begun+1)=c.begun+1:=qc6 Ec Ec;have e2:∀ (x:Vector GCase 32),({ c with cases:=x }:GCluster).begun=c.begun:=fun _=>rfl;rw [e2,e1,qaa,qjq hfu Ec,qaa];dsimp only;have e3:IntKind.wrap .i64 (c.begun+1-1)=c.begun:=by rw [qc6 Ec Ec];omega
   rw [e3];rfl
  ·rfl
def q2m (c:GCluster) (n:Nat):GCluster:={ c with nodes:=c.nodes.setIfInBounds n ql2,down:=c.down.setIfInBounds n true,tear:=c.tear.setIfInBounds n 0 }
noncomputable def qgj (c:GCluster) (net:List ByteArray) (n:Nat) (f:GFrame) (s:ByteArray):Int × GCluster × List ByteArray :=
 bif qbp c.down n then (6,c,net) else
 bif (qde (qbp c.nodes n) n f).2.2 != 0 then ((qde (qbp c.nodes n) n f).2.2,c,net) else
 bif decide (qbp c.tear n>0) then (6,q2m { c with logs:=c.logs.setIfInBounds n (qw9 (qbp c.logs n) s (qbp c.tear n-1)) } n,net) else
 bif qf5 (qbp c.logs n) s != 0 then (qf5 (qbp c.logs n) s,{ c with logs:=c.logs.setIfInBounds n (qv5 (qbp c.logs n) s) },net) else
 (0,{ c with logs:=c.logs.setIfInBounds n (qv5 (qbp c.logs n) s),nodes:=c.nodes.setIfInBounds n (qde (qbp c.nodes n) n f).1 },qln net (qde (qbp c.nodes n) n f).2.1)
theorem qqt {log s:ByteArray} {n:Int} (h:log.size≤65536):(qw9 log s n).size≤65536:=by
 unfold qw9;split
 ·rename_i hc;have hs:=qlu log s;rcases qra log s with ⟨_,_,_,h4⟩ | ⟨h0,_⟩
  ·rw [Br];omega
  ·exact absurd hc h0
 ·exact h
theorem qo4 {log s:ByteArray} (h:log.size≤65536):(qv5 log s).size≤65536:=by
 have hs:=qlu log s;rcases qra log s with ⟨h0,_,_,h4⟩ | ⟨_,h1⟩
 ·unfold qv5;rw [if_pos h0];omega
 ·rw [h1];exact h
theorem q0z {s:GNode} {who:Int} {f:GFrame}:(qde s who f).2.1.length≤100:=by
 by_cases h:(qde s who f).2.2=0
 ·exact (qvk h).1
 ·rw [(q2l h).2];simp
theorem qx5 {fu:Nat} (hfu:1100≤fu) {c:GCluster} {net:List ByteArray} (h:CInv c net) {x:Int} (h0:0≤x) (h6:x<6) {f:GFrame} {s:ByteArray} (hs:s.size≤400):qn8 fu c net x f s=some (qgj c net x.toNat f s):=by
 have hn:x.toNat<6:=by omega
 have ex:((x.toNat:Nat):Int)=x:=by omega
 have hg:=h.node _ hn;have hlog:=h.log _ hn;have ht:=h.tear _ hn;unfold qn8 qgj;rw [qay h0 h6,qaa,qmw h0 h6,qaa,ex];cases qbp c.down x.toNat
 ·rw [cond_false,cond_false,qaa,qmw h0 h6,qaa,qmt hg.sizes Ec Ec,qaa,qaa];have hl:=q0z (s:=qbp c.nodes x.toNat) (who:=x) (f:=f);unfold qld;cases h1:((qde (qbp c.nodes x.toNat) x f).2.2 != 0)
  ·rw [cond_false,cond_false,qay h0 h6,qaa,qmw h0 h6,qaa];by_cases h2:qbp c.tear x.toNat>0
   ·rw [qag (qaf h2),qag (qaf h2),qaa,qmw h0 h6,qaa,qaa,qaa,qc6 Ec Ec,qxq Ec,qaa,qaa,qg9 (by have:=qqt (s:=s) (n:=qbp c.tear x.toNat-1) hlog;omega),qaa,qaa,qbo h0 h6,qaa,qaa,qaa,qaa,
     qmw h0 h6,qaa,qbo h0 h6,qaa,qaa,qaa,qmw h0 h6,qaa,qbo h0 h6,qaa,qaa,qaa,qmw h0 h6,qaa,qbo h0 h6,qaa,qaa]
    rfl
   ·rw [qad (qae h2),qad (qae h2),qaa,qmw h0 h6,qaa,qof Ec,qaa,qaa,qg9 (by have:=qo4 (s:=s) hlog;dsimp only;omega),qaa,qaa,qbo h0 h6,qaa,qaa];cases h3:(qf5 (qbp c.logs x.toNat) s != 0)
    ·rw [cond_false,cond_false,qaa,qmw h0 h6,qaa,qbo h0 h6,qaa,qaa,qjq hfu Ec,qaa]
    ·rfl
  ·rfl
 ·rfl
noncomputable def frm2 (c:GCluster) (net:List ByteArray) (kind:Int) (f:GFrame) (s:ByteArray):GReply × GCluster × List ByteArray :=
 bif kind==4 then (okR f.id [],c,net) else
 bif f.kind==1||f.kind==3 then
  (bif (qgj c net f.node.toNat f s).1 != 0 then qpr (qgj c net f.node.toNat f s).1 else okR f.id [],(qgj c net f.node.toNat f s).2.1,(qgj c net f.node.toNat f s).2.2)
 else
  bif (qcs (qbp c.cases f.id.toNat) f.id f).2.2 != 0 then (qpr (qcs (qbp c.cases f.id.toNat) f.id f).2.2,c,net)
  else (qx3 { c with cases:=c.cases.setIfInBounds f.id.toNat (qcs (qbp c.cases f.id.toNat) f.id f).1 } f.id,{ c with cases:=c.cases.setIfInBounds f.id.toNat (qcs (qbp c.cases f.id.toNat) f.id f).1 },qln net (qcs (qbp c.cases f.id.toNat) f.id f).2.1)
def qo5 (net:List ByteArray) (x:Int):ByteArray:=net[x.toNat]?.getD ⟨#[]⟩
def q46 (net:List ByteArray) (x:Int):GFrame:=(qod (byL (qo5 net x))).1
noncomputable def q3j (c:GCluster) (net:List ByteArray) (a:GAct):GReply × GCluster × List ByteArray :=
 bif decide (0≤a.n∧a.n<net.length) then frm2 c (bif a.kind==3 then net else net.eraseIdx a.n.toNat) a.kind (q46 net a.n) (qo5 net a.n) else (qpr 4,c,net)
theorem q00 (l:List Int):(0≤(qod l).1.node∧(qod l).1.node<6)∧(0≤(qod l).1.id∧(qod l).1.id<32):=by
 rcases qx2 l with ⟨f,_,hz,h⟩ | h
 ·rw [h];exact (qi0 hz).2
 ·rw [h];exact ⟨⟨by show (0:Int)≤0;omega,by show (0:Int)<6;omega⟩,⟨by show (0:Int)≤0;omega,by show (0:Int)<32;omega⟩⟩
theorem CInv.cut {c:GCluster} {net net':List ByteArray} (h:CInv c net) (hs:∀ s∈net',s∈net) (hl:net'.length≤net.length):CInv c net' :=
 ⟨h.acts,h.begun,h.node,h.down,h.log,h.tear,h.cas,by have:=h.net.1;omega,fun s hm=>h.net.2 s (hs s hm)⟩
theorem qlo {fu:Nat} (hfu:1100≤fu) {c:GCluster} {net:List ByteArray} (h:CInv c net) {a:GAct} {s:ByteArray} (hs:s.size≤400) {d:GReply}:qdq fu a d s c net=some (frm2 c net a.kind (qod (byL s)).1 s):=by
 obtain ⟨⟨n0,n6⟩,i0,i32⟩:=q00 (byL s);unfold qdq frm2;rw [qqh Ec Ec,qaa,qaa];generalize (qod (byL s)).1=f at n0 n6 i0 i32;cases h4:(a.kind==4)
 ·have hcome:qcp fu d s c net f true=some (bif (qgj c net f.node.toNat f s).1 != 0 then qpr (qgj c net f.node.toNat f s).1 else okR f.id [],(qgj c net f.node.toNat f s).2.1,(qgj c net f.node.toNat f s).2.2):=by
   rw [qcp,cond_true,qx5 hfu h n0 n6 hs,qaa];cases ((qgj c net f.node.toNat f s).1 != 0)<;>rfl
  have htake:qcp fu d s c net f false=some (bif (qcs (qbp c.cases f.id.toNat) f.id f).2.2 != 0 then (qpr (qcs (qbp c.cases f.id.toNat) f.id f).2.2,c,net)
   else (qx3 { c with cases:=c.cases.setIfInBounds f.id.toNat (qcs (qbp c.cases f.id.toNat) f.id f).1 } f.id,{ c with cases:=c.cases.setIfInBounds f.id.toNat (qcs (qbp c.cases f.id.toNat) f.id f).1 },qln net (qcs (qbp c.cases f.id.toNat) f.id f).2.1)):=by
   have hl:=(qvd (c:=qbp c.cases f.id.toNat) (id:=f.id) (f:=f)).2.1
   rw [qcp,cond_false,qe6,qay i0 i32,qaa,qmw i0 i32,qaa,qtk Ec,qaa,qaa,qe5]
   cases ((qcs (qbp c.cases f.id.toNat) f.id f).2.2 != 0)
   ·rw [cond_false,cond_false,qay i0 i32,qaa,qmw i0 i32,qaa,qbo i0 i32,qaa,qaa,qjq hfu Ec,qaa,qqs Ec i0 i32,qaa,qaa]
   ·rfl
  rw [cond_false,cond_false];cases h1:(f.kind==1)
  ·rw [cond_false,Bd];cases h3:(f.kind==3)
   ·rw [htake];rfl
   ·rw [hcome];rfl
  ·rw [cond_true,hcome];rfl
 ·rfl
theorem qvm {fu:Nat} (hfu:1100≤fu) {c:GCluster} {net:List ByteArray} (h:CInv c net) {a:GAct}:qhn fu c net a=some (q3j c net a):=by
 obtain ⟨hn1,hn2⟩:=h.net;unfold qhn q3j qei;by_cases h0:a.n<0
 ·rw [qag (qaf h0),qae (show ¬ (0≤a.n∧a.n<net.length) by omega)];rfl
 ·rw [qad (qae h0)];by_cases h1:a.n≥(net.length:Int)
  ·rw [qaf h1,qae (show ¬ (0≤a.n∧a.n<net.length) by omega)];rfl
  ·rw [qae h1,qaf (show 0≤a.n∧a.n<net.length by omega),cond_false,cond_true,qe7];have hlt:a.n.toNat<net.length:=by omega
   have hi:idx net a.n=some (qo5 net a.n):=by
    unfold idx qo5;rw [if_pos Ec];simp [hlt]
   have hsz:(qo5 net a.n).size≤400:=by
    unfold qo5;rw [Xl hlt];exact hn2 _ (A1 hlt)
   have hk3:(a.kind != 3) = !(a.kind==3):=rfl;rw [hi,qaa,hk3];cases a.kind==3
   ·have hd:q5j net a.n (IntKind.wrap .i64 (a.n+1))=some (net.eraseIdx a.n.toNat):=by
     rw [qc6 Ec Ec];unfold q5j;rw [if_pos Ec,List.eraseIdx_eq_take_drop_succ];have:(a.n+1).toNat=a.n.toNat+1:=by omega
     rw [this]
    rw [Au,cond_true,cond_false,hd,qaa,qaa];exact qlo hfu (h.cut (fun s hs=>Du hs) (D0 ..)) hsz
   ·rw [Af,cond_false,cond_true];exact qlo hfu h hsz
noncomputable def q2n (c:GCluster) (n:Nat):GCluster:={ c with logs:=c.logs.setIfInBounds n ((qbp c.logs n).extract 0 (qcz (qbp c.logs n).data.toList).2),nodes:=c.nodes.setIfInBounds n (qi3 n (qcz (qbp c.logs n).data.toList).1 ql2).1,down:=c.down.setIfInBounds n false }
def q01 (a:GAct):Bool:=decide (0≤a.n∧a.n<6) && !(a.kind==7 && !decide (0≤a.m∧a.m≤400))
noncomputable def q3k (c:GCluster) (net:List ByteArray) (a:GAct):GReply × GCluster × List ByteArray :=
 bif q01 a then
  bif !(qbp c.down a.n.toNat==(a.kind==8)) then (qpr 6,c,net) else
  bif a.kind==7 then (qpr 0,{ c with tear:=c.tear.setIfInBounds a.n.toNat (a.m+1) },net) else
  bif a.kind==6 then (qpr 0,q2m c a.n.toNat,net) else (qpr 0,q2n c a.n.toNat,net)
 else (qpr 2,c,net)
theorem qlp {fu:Nat} (hfu:70000≤fu) {c:GCluster} {net:List ByteArray} (h:CInv c net) {a:GAct} (h0:0≤a.n) (h6:a.n<6) (hm:(a.kind==7)=true→0≤a.m∧a.m≤400):qbz fu c net a false =
 some (bif !(qbp c.down a.n.toNat==(a.kind==8)) then (qpr 6,c,net) else bif a.kind==7 then (qpr 0,{ c with tear:=c.tear.setIfInBounds a.n.toNat (a.m+1) },net) else bif a.kind==6 then (qpr 0,q2m c a.n.toNat,net) else (qpr 0,q2n c a.n.toNat,net)):=by
 have hn:a.n.toNat<6:=by omega
 have ex:((a.n.toNat:Nat):Int)=a.n:=by omega
 have hlog:=h.log _ hn;unfold qbz;rw [cond_false,qay h0 h6,qaa,qmw h0 h6,qaa];cases hd:(!(qbp c.down a.n.toNat==(a.kind==8)))
 ·rw [cond_false,cond_false];cases h7:(a.kind==7)
  ·rw [cond_false,cond_false];cases h6k:(a.kind==6)
   ·obtain ⟨r1,r2,r3⟩:=qog _ (qbp c.logs a.n.toNat).data.toList (Xx _);have hdl:(qbp c.logs a.n.toNat).data.toList.length=(qbp c.logs a.n.toNat).size:=rfl;have hcut:qwx (qbp c.logs a.n.toNat) none (some ((qcz (qbp c.logs a.n.toNat).data.toList).2:Int))=some ((qbp c.logs a.n.toNat).extract 0 (qcz (qbp c.logs a.n.toNat).data.toList).2):=by
     unfold qwx qe0;simp only [X1,A8];rw [if_pos Ec,Bg];rfl
    have hrep:qef fu a.n (qcz (qbp c.logs a.n.toNat).data.toList).1=some (qi3 a.n (qcz (qbp c.logs a.n.toNat).data.toList).1 ql2):=by
     rw [qpq Ec Ec (fun x hx=>by have:=r3 x hx;omega),qaf (show 0≤a.n∧a.n<6 from ⟨h0,h6⟩),cond_true]
    rw [cond_false,cond_false,qaa,qmw h0 h6,qaa,qxr hlog Ec,qaa,qaa,qaa,hcut,qaa,qaa,qg9 (by rw [Br];omega),qaa,qaa,qbo h0 h6,qaa,qaa,
     hrep,qaa,qaa,qmw h0 h6,qaa,qbo h0 h6,qaa,qaa,qaa,qmw h0 h6,qaa,qbo h0 h6,qaa,qaa]
    unfold qdr q2n;rw [ex];rfl
   ·rw [cond_true,cond_true,qaa,qaa,qmw h0 h6,qaa,qbo h0 h6,qaa,qaa,qaa,qmw h0 h6,qaa,qbo h0 h6,qaa,qaa,qaa,qmw h0 h6,qaa,qbo h0 h6,qaa,qaa];rfl
  ·have:=hm h7;rw [cond_true,cond_true,qaa,qmw h0 h6,qaa,qc6 Ec Ec,qbo h0 h6,qaa,qaa];rfl
 ·rfl
theorem qvn {fu:Nat} (hfu:70000≤fu) {c:GCluster} {net:List ByteArray} (h:CInv c net) {a:GAct}:qho fu c net a=some (q3k c net a):=by
 have hno:qbz fu c net a true=some (qpr 2,c,net):=rfl;unfold qho q3k q01;by_cases h0:a.n<0
 ·rw [qag (qaf h0),qae (show ¬ (0≤a.n∧a.n<6) by omega),hno];rfl
 ·rw [qad (qae h0)];by_cases h6:a.n≥6
  ·rw [qag (qaf h6),qae (show ¬ (0≤a.n∧a.n<6) by omega),hno];rfl
  ·rw [qad (qae h6),qaf (show 0≤a.n∧a.n<6 by omega),Aa];cases h7:(a.kind==7)
   ·rw [cond_false,B5,Au,cond_true,qlp hfu h Ec Ec (fun e=>by rw [h7] at e;cases e),h7]
   ·rw [cond_true,Aa];by_cases m0:a.m<0
    ·rw [qag (qaf m0),qae (show ¬ (0≤a.m∧a.m≤400) by omega),hno];rfl
    ·rw [qad (qae m0)];by_cases m4:a.m>400
     ·rw [qaf m4,qae (show ¬ (0≤a.m∧a.m≤400) by omega),hno];rfl
     ·rw [qae m4,qaf (show 0≤a.m∧a.m≤400 by omega),qlp hfu h Ec Ec (fun _=>by omega),h7];rfl
def q76 (c:GCluster) (net:List ByteArray) (a:GAct):GReply × GCluster × List ByteArray :=
 bif decide (0≤a.n∧a.n<c.begun) then (qx3 c a.n,c,qln net (qlh (qbp c.cases a.n.toNat) a.n)) else (qpr 4,c,net)
noncomputable def doA (c:GCluster) (net:List ByteArray) (a:GAct):GReply × GCluster × List ByteArray :=
 bif a.kind==1 then q45 c net a.ops else
 bif a.kind==2||(a.kind==3||a.kind==4) then q3j c net a else
 bif a.kind==5 then q76 c net a else
 bif a.kind==6||(a.kind==7||a.kind==8) then q3k c net a else (qpr 3,c,net)
noncomputable def q1d (c:GCluster) (net:List ByteArray) (a:GAct):GReply × GCluster × List ByteArray :=
 bif decide (c.acts≥400) then (qpr 5,c,net) else doA { c with acts:=c.acts+1 } net a
theorem CInv.act {c:GCluster} {net:List ByteArray} (h:CInv c net) (ha:¬ c.acts≥400):CInv { c with acts:=c.acts+1 } net :=
 ⟨by have:=h.acts;exact ⟨by show 0≤c.acts+1;omega,by show c.acts+1≤400;omega⟩,h.begun,h.node,h.down,h.log,h.tear,h.cas,h.net⟩
theorem qx6 {fu:Nat} (hfu:70000≤fu) {c:GCluster} {net:List ByteArray} (h:CInv c net) {a:GAct} (h0:0≤a.n) (h1:a.n<c.begun) {d:GReply}:qkl fu net a c d=some (qx3 c a.n,c,qln net (qlh (qbp c.cases a.n.toNat) a.n)):=by
 have:=h.begun.2;have hl:=(againC_small (c:=qbp c.cases a.n.toNat) (id:=a.n)).1;unfold qkl;rw [qay h0 Ec,qaa,qmw h0 Ec,qaa,qox Ec,qaa,qjq Ec Ec,qaa,qqs Ec h0 Ec,qaa,qaa]
theorem q2o {fu:Nat} (hfu:70000≤fu) {c:GCluster} {net:List ByteArray} (h:CInv c net) {a:GAct}:qpj fu c net a=some (q1d c net a):=by
 unfold qpj q1d;by_cases ha:c.acts≥400
 ·rw [qag (qaf ha),qag (qaf ha)];rfl
 ·have hi:=h.act ha;have hacts:=h.acts;rw [qad (qae ha),qad (qae ha),qc6 Ec Ec,qaa];generalize ({ c with acts:=c.acts+1 }:GCluster)=d at hi;unfold doA;have hfr:∀ (b:Bool),b=true→qgd fu net a d b=some (q3j d net a):=fun b hb=>by
   rw [qgd,hb,cond_true,qvm Ec hi];rfl
  have hpo:∀ (b:Bool),b=true→qhp fu net a d b=some (q3k d net a):=fun b hb=>by
   rw [qhp,hb,cond_true,qvn hfu hi];rfl
  cases k1:(a.kind==1)
  ·rw [cond_false,cond_false];cases k2:(a.kind==2)
   ·rw [cond_false,Bd];cases k3:(a.kind==3)
    ·rw [cond_false,Bd];cases k4:(a.kind==4)
     ·rw [cond_false,qgd,cond_false];cases k5:(a.kind==5)
      ·rw [cond_false,cond_false];cases k6:(a.kind==6)
       ·rw [cond_false,Bd];cases k7:(a.kind==7)
        ·rw [cond_false,Bd];cases k8:(a.kind==8)
         ·rfl
         ·rw [hpo true rfl];rfl
        ·rw [hpo true rfl];rfl
       ·rw [hpo true rfl];rfl
      ·rw [cond_true,cond_true];unfold q76 qkm;by_cases n0:a.n<0
       ·rw [qag (qaf n0),qae (show ¬ (0≤a.n∧a.n<d.begun) by omega)];rfl
       ·rw [qad (qae n0)];by_cases nb:a.n≥d.begun
        ·rw [qaf nb,qae (show ¬ (0≤a.n∧a.n<d.begun) by omega)];rfl
        ·rw [qae nb,qaf (show 0≤a.n∧a.n<d.begun by omega),cond_false,cond_true];exact qx6 hfu hi Ec Ec
     ·rw [hfr true rfl];rfl
    ·rw [cond_true,hfr true rfl];rfl
   ·rw [cond_true,hfr true rfl];rfl
  ·rw [cond_true,cond_true,qvl Ec hi,qaa,qaa]
theorem qtu (a b:List Int):qaq (qmc a b)=true:=(qph a b 32 Ec).1
structure Gathers (t:GTxn) (told:Vector Bool 6) (c:GCase) (deps:List Int):Prop where
 htold:c.told=told
 hdeps:c.deps=deps
 hops:c.ops=t.ops
 small:deps.length≤32
 enough:c.fixed=true→qey c=true
theorem qtv {c d:GCase} (h1:c.ops=d.ops) (h2:c.told=d.told):qey c=qey d:=by unfold qey;rw [h1,h2]
theorem Gathers.same {t:GTxn} {told:Vector Bool 6} {c d:GCase} {deps:List Int} (h:Gathers t told c deps) (h1:d.told=c.told) (h2:d.deps=c.deps) (h3:d.ops=c.ops) (h4:d.fixed=c.fixed):Gathers t told d deps :=
 ⟨h1.trans h.htold,h2.trans h.hdeps,h3.trans h.hops,h.small,fun hf=>by rw [qtv h3 h1];exact h.enough (by rw [← h4];exact hf)⟩
structure OfTxn (t:GTxn) (c:GCase):Prop where
 begun:c.begun=true
 ops:c.ops=t.ops
 good:qao t.ops=true
 none:c.fixed=false→∀ k,qco c.has k=false
theorem q02 (k:Int):qb7 k=0∨qb7 k=1:=by
 unfold qb7;split
 ·exact .inl rfl
 ·exact .inr rfl
theorem ql3 {has:Nat→Bool} {s:Int}:∀ (l:List GOp) (k:Nat),qmp has s l k=true→∀ i o,l[i]? = some o→qb7 o.key=s→has (k+i)=true
 | [],_,_,i,o,h,_=>by simp at h
 | a::t,k,h,i,o,hi,hs=>by
  rw [qmp] at h;cases hb:(qb7 a.key==s && !has k) with
  | true=>rw [hb] at h;cases h
  | false =>
   rw [hb] at h;cases i with
   | zero =>
    cases hi;have e:(qb7 a.key==s)=true:=by simp [hs]
    rw [e,Aa] at hb;simpa using hb
   | succ i =>
    have:=ql3 t (k+1) h i o hi hs;rw [show k+(i+1)=k+1+i from by omega];exact this
theorem qqu {c:GCase} (h0:qd5 c 0=true) (h1:qd5 c 1=true) {i:Nat} (hi:i<c.ops.length):qco c.has i=true:=by
 have hx:c.ops[i]? = some c.ops[i]:=by simp
 rcases q02 c.ops[i].key with h | h
 ·have:=ql3 c.ops 0 h0 i _ hx h;rwa [Ax] at this
 ·have:=ql3 c.ops 0 h1 i _ hx h;rwa [Ax] at this
theorem ql4 {c:GCase} (h:(qdl c).2=true):c.begun=true∧qdd c=true∧qd5 c 0=true∧qd5 c 1=true∧(qdl c).1=c.values.toList.take c.ops.length:=by
 unfold qdl at h ⊢;cases h1:c.begun&&(qdd c&&(qd5 c 0&&qd5 c 1)) with
 | false=>rw [h1] at h;cases h
 | true =>
  simp only [Xn] at h1;exact ⟨h1.1,h1.2.1,h1.2.2.1,h1.2.2.2,rfl⟩
theorem OfTxn.len {t:GTxn} {c:GCase} (h:OfTxn t c):0<c.ops.length∧c.ops.length≤4:=by
 rw [h.ops];exact qdk h.good
theorem OfTxn.fixed {t:GTxn} {c:GCase} (h:OfTxn t c) (hr:(qdl c).2=true):c.fixed=true:=by
 obtain ⟨_,_,h0,h1,_⟩:=ql4 hr;cases hf:c.fixed with
 | true=>rfl
 | false =>
  have:=qqu h0 h1 h.len.1;rw [h.none hf 0] at this;cases this
theorem OfTxn.length {t:GTxn} {c:GCase} (h:OfTxn t c) (hr:(qdl c).2=true):(qdl c).1.length=t.ops.length:=by
 obtain ⟨_,_,_,_,e⟩:=ql4 hr;have:=h.len;rw [e,A9,h.ops];rw [h.ops] at this;simp;omega
theorem qqv {sh:Int}:∀ {at_ vs:List Int} {c:GCase},(∀ n∈at_,0≤n)→(∀ i,i<c.ops.length→qco c.has i=true)→qh0 sh c at_ vs=c
 | [],_,_,_,_=>by unfold qh0;rfl
 | _::_,[],_,_,_=>by unfold qh0;rfl
 | k::at_,v::vs,c,hn,h=>by
  have e:qb3 sh c k v=c:=by
   unfold qb3;by_cases hk:k<(c.ops.length:Int)
   ·have h0:=hn k Xk;rw [h k.toNat Ec];simp
   ·rw [qae hk];rfl
  unfold qh0;rw [e];exact qqv (fun n hm=>hn n (Xj _ hm)) h
theorem qo6 {c:GCase} {id:Int} {f:GFrame} (h:(qcs c id f).2.2=0):qak f=0∧(((qcs c id f).1=c)∨(c.fixed=false∧(qcs c id f).1=q3g (qoy c f))∨(c.fixed=true∧(qcs c id f).1={ c with known:=c.known.setIfInBounds f.node.toNat true })∨(c.fixed=true∧(qcs c id f).1=qh0 (ofZ f.node) c f.at_ f.vals)):=by
 unfold qcs at h ⊢;cases ht:qtj c id f
 ·rw [ht] at h;simp at h
 ·rw [ht] at h;simp only [cond_true] at h ⊢;cases hz:(qak f==0)
  ·rw [hz] at h;simp only [cond_false] at h;rw [h] at hz;cases hz
  ·refine ⟨by simpa using hz,?_⟩;rw [hz] at h;simp only [cond_true] at h ⊢;unfold qms at h ⊢;cases hk2:(f.kind==2)
   ·simp only [cond_false];cases hk4:(f.kind==4)
    ·simp only [cond_false];cases hk5:(f.kind==5)
     ·rw [hk2,hk4,hk5] at h;simp at h
     ·cases hfx:c.fixed
      ·exact .inl rfl
      ·exact .inr (.inr (.inr ⟨rfl,rfl⟩))
    ·cases hfx:c.fixed
     ·exact .inl rfl
     ·exact .inr (.inr (.inl ⟨rfl,rfl⟩))
   ·simp only [cond_true];cases hfx:c.fixed
    ·cases (qco c.told f.node.toNat || !qah c.ops (ofZ f.node))
     ·exact .inr (.inl ⟨rfl,rfl⟩)
     ·exact .inl rfl
    ·exact .inl rfl
theorem qqw {c d:GCase} (h1:d.begun=c.begun) (h2:d.ops=c.ops) (h3:d.deps=c.deps) (hb:c.begun=true):qdd d=qdd c:=by
 unfold qdd;rw [h1,h2,h3,hb];rfl
theorem OfTxn.take {t:GTxn} {c:GCase} (h:OfTxn t c) {f:GFrame} (h0:(qcs c t.id f).2.2=0):OfTxn t (qcs c t.id f).1∧((qdl c).2=true→qdl (qcs c t.id f).1=qdl c):=by
 obtain ⟨hz,hk⟩:=qo6 h0;rcases hk with e | ⟨hf,e⟩ | ⟨hf,e⟩ | ⟨hf,e⟩
 ·rw [e];exact ⟨h,fun _=>rfl⟩
 ·rw [e];refine ⟨⟨h.begun,h.ops,h.good,fun _=>h.none hf⟩,fun hr=>?_⟩;rw [h.fixed hr] at hf;cases hf
 ·rw [e];refine ⟨⟨h.begun,h.ops,h.good,fun hn=>?_⟩,fun _=>?_⟩
  ·have hn:c.fixed=false:=hn;rw [hn] at hf;cases hf
  ·unfold qdl;have hg:qdd { c with known:=c.known.setIfInBounds f.node.toNat true }=qdd c:=qqw rfl rfl rfl h.begun;rw [hg];rfl
 ·rw [e];have hd:=doneL_same (sh:=ofZ f.node) (at_:=f.at_) (vs:=f.vals) (c:=c);refine ⟨⟨hd.2.2.1.trans h.begun,hd.1.trans h.ops,h.good,fun hn=>?_⟩,fun hr=>?_⟩
  ·rw [hd.2.1,hf] at hn;cases hn
  ·obtain ⟨_,_,w0,w1,_⟩:=ql4 hr;rw [qqv (fun n hn=>((q0p hz).mem n hn).1) fun i hi=>qqu w0 w1 hi]
theorem qvo {c:GCase} {id:Int} {f:GFrame} (h:(qcs c id f).2.2=0):qtj c id f=true:=by
 unfold qcs at h;cases ht:qtj c id f
 ·rw [ht] at h;exact absurd (show (2:Int)=0 from h) Ed
 ·rfl
theorem q2p {c:GCase} {id:Int} {f:GFrame} (h:(qcs c id f).2.2≠0):(qcs c id f).1=c∧(qcs c id f).2.1=[]:=by
 unfold qcs at *;cases ht:qtj c id f
 ·exact ⟨rfl,rfl⟩
 ·rw [ht,cond_true] at h;rw [cond_true];cases hz:(qak f==0)
  ·exact ⟨rfl,rfl⟩
  ·rw [hz,cond_true] at h;rw [cond_true];unfold qms at *;cases h2:(f.kind==2)
   ·rw [h2,cond_false] at h;rw [cond_false];cases h4:(f.kind==4)
    ·rw [h4,cond_false] at h;rw [cond_false];cases h5:(f.kind==5)
     ·exact ⟨rfl,rfl⟩
     ·rw [h5,cond_true] at h;cases hf:c.fixed
      ·exact ⟨rfl,rfl⟩
      ·rw [hf] at h;exact absurd rfl h
    ·rw [h4,cond_true] at h;cases hf:c.fixed
     ·exact ⟨rfl,rfl⟩
     ·rw [hf] at h;exact absurd rfl h
   ·rw [h2,cond_true] at h;cases hb:(c.fixed||(qco c.told f.node.toNat || !qah c.ops (ofZ f.node)))
    ·rw [hb] at h;exact absurd rfl h
    ·exact ⟨rfl,rfl⟩
theorem qo7 {c:GCase} (h:qdd c=true) (hb:c.begun=true):qao c.ops=true∧qaq c.deps=true:=by
 unfold qdd at h;rw [hb,cond_true,Xn] at h;exact h
theorem qrw {c:GCase} (hb:c.begun=true) (h1:qao c.ops=true) (h2:qaq c.deps=true):qdd c=true:=by
 unfold qdd;rw [hb,cond_true,h1,h2];rfl
theorem qx7 {c:GCase} {id:Int} {f:GFrame} (h:qdd c=true):qdd (qcs c id f).1=true:=by
 by_cases hz:(qcs c id f).2.2=0
 ·have ht:=qvo hz;unfold qtj at ht;simp only [Xn] at ht;have hb:=ht.2.1;obtain ⟨h1,h2⟩:=qo7 h hb;obtain ⟨_,e | ⟨_,e⟩ | ⟨_,e⟩ | ⟨_,e⟩⟩:=qo6 hz
  ·rw [e];exact h
  ·rw [e];exact qrw hb h1 (qtu _ _)
  ·rw [e];exact qrw hb h1 h2
  ·rw [e,qqw doneL_same.2.2.1 doneL_same.1 doneL_same.2.2.2.1 hb];exact h
 ·rw [(q2p hz).1];exact h
theorem qrx:qdd noC=true:=by decide +kernel
theorem qvp (t:GTxn):qdd (qga t).1=true:=by
 unfold qga;cases decide (0≤t.id∧t.id<32)
 ·exact qrx
 ·cases h:qao t.ops
  ·exact qrx
  ·exact qrw rfl h (show qaq []=true by decide)
theorem CInv.sent {c:GCluster} {net:List ByteArray} (h:CInv c net) (l:List GFrame):CInv c (qln net l) :=
 ⟨h.acts,h.begun,h.node,h.down,h.log,h.tear,h.cas,qkq l net h.net.1 h.net.2⟩
theorem CInv.setCase {c:GCluster} {net:List ByteArray} (h:CInv c net) {n:Nat} (hn:n<32) {x:GCase} (hx:qdd x=true):CInv { c with cases:=c.cases.setIfInBounds n x } net:=by
 refine ⟨h.acts,h.begun,h.node,h.down,h.log,h.tear,fun k hk=>?_,h.net⟩;show qdd (qbp (c.cases.setIfInBounds n x) k)=true;rw [qjp hn];by_cases e:n=k
 ·rw [if_pos e];exact hx
 ·rw [if_neg e];exact h.cas k hk
theorem CInv.setLog {c:GCluster} {net:List ByteArray} (h:CInv c net) {n:Nat} (hn:n<6) {x:ByteArray} (hx:x.size≤65536):CInv { c with logs:=c.logs.setIfInBounds n x } net:=by
 refine ⟨h.acts,h.begun,h.node,h.down,fun k hk=>?_,h.tear,h.cas,h.net⟩;show (qbp (c.logs.setIfInBounds n x) k).size≤65536;rw [qjp hn];by_cases e:n=k
 ·rw [if_pos e];exact hx
 ·rw [if_neg e];exact h.log k hk
theorem CInv.setTear {c:GCluster} {net:List ByteArray} (h:CInv c net) {n:Nat} (hn:n<6) {x:Int} (hx:0≤x∧x≤401):CInv { c with tear:=c.tear.setIfInBounds n x } net:=by
 refine ⟨h.acts,h.begun,h.node,h.down,h.log,fun k hk=>?_,h.cas,h.net⟩;show 0≤qbp (c.tear.setIfInBounds n x) k∧qbp (c.tear.setIfInBounds n x) k≤401;rw [qjp hn];by_cases e:n=k
 ·rw [if_pos e];exact hx
 ·rw [if_neg e];exact h.tear k hk
theorem CInv.setNode {c:GCluster} {net:List ByteArray} (h:CInv c net) {n:Nat} (hn:n<6) {x:GNode} {b:Bool} (hx:GoodN x) (hb:b=true→x=ql2):CInv { c with nodes:=c.nodes.setIfInBounds n x,down:=c.down.setIfInBounds n b } net:=by
 refine ⟨h.acts,h.begun,fun k hk=>?_,fun k hk=>?_,h.log,h.tear,h.cas,h.net⟩
 ·show GoodN (qbp (c.nodes.setIfInBounds n x) k);rw [qjp hn];by_cases e:n=k
  ·rw [if_pos e];exact hx
  ·rw [if_neg e];exact h.node k hk
 ·show qbp (c.down.setIfInBounds n b) k=true→qbp (c.nodes.setIfInBounds n x) k=ql2;rw [qjp hn,qjp hn];by_cases e:n=k
  ·rw [if_pos e,if_pos e];exact hb
  ·rw [if_neg e,if_neg e];exact h.down k hk
theorem CInv.fall {c:GCluster} {net:List ByteArray} (h:CInv c net) {n:Nat} (hn:n<6):CInv (q2m c n) net :=
 (h.setNode hn (b:=true) qg0 fun _=>rfl).setTear hn ⟨by omega,by omega⟩
theorem qry {c:GCluster} {n:Nat} {b:Bool} (h:qbp c.down n=b) (hn:n<6):c.down.setIfInBounds n b=c.down:=by
 refine Vector.ext fun i hi=>?_;rw [Bs];by_cases e:n=i
 ·subst e;rw [if_pos rfl,← h];unfold qbp;simp [hi]
 ·rw [if_neg e]
theorem CInv.come {c:GCluster} {net:List ByteArray} (h:CInv c net) {n:Nat} (hn:n<6) {f:GFrame} {s:ByteArray}:CInv (qgj c net n f s).2.1 (qgj c net n f s).2.2:=by
 have hlog:=h.log n hn;unfold qgj;cases hd:qbp c.down n
 ·rw [cond_false];cases h1:((qde (qbp c.nodes n) n f).2.2 != 0)
  ·have h1:(qde (qbp c.nodes n) n f).2.2=0:=by simpa using h1
   rw [cond_false];by_cases h2:qbp c.tear n>0
   ·rw [qag (qaf h2)];exact (h.setLog hn (qqt hlog)).fall hn
   ·rw [qad (qae h2)];cases h3:(qf5 (qbp c.logs n) s != 0)
    ·have h':=((h.setLog hn (qo4 (s:=s) hlog)).setNode hn (x:=(qde (qbp c.nodes n) n f).1) (b:=false) (qjo h1) fun e=>by cases e).sent (qde (qbp c.nodes n) n f).2.1;have e:=qry hd hn;have e:({ c with logs:=c.logs.setIfInBounds n (qv5 (qbp c.logs n) s) }:GCluster).down.setIfInBounds n false=c.down:=e;rw [e] at h';exact h'
    ·exact h.setLog hn (qo4 hlog)
  ·exact h
 ·exact h
theorem CInv.beg {c:GCluster} {net:List ByteArray} (h:CInv c net) {ops:List GOp}:CInv (q45 c net ops).2.1 (q45 c net ops).2.2:=by
 obtain ⟨h0,h1⟩:=h.begun;unfold q45;by_cases h32:c.begun≥32
 ·rw [qag (qaf h32)];exact h
 ·rw [qad (qae h32)];cases hc:((qga { id:=c.begun,ops:=ops }).2.2 != 0)
  ·have h':=(h.setCase (n:=c.begun.toNat) Ec (qvp { id:=c.begun,ops:=ops })).sent (qga { id:=c.begun,ops:=ops }).2.1;exact ⟨h'.acts,⟨by show 0≤c.begun+1;omega,by show c.begun+1≤32;omega⟩,h'.node,h'.down,h'.log,h'.tear,h'.cas,h'.net⟩
  ·exact h
theorem CInv.frm2 {c:GCluster} {net:List ByteArray} (h:CInv c net) {kind:Int} {f:GFrame} {s:ByteArray} (hn:0≤f.node∧f.node<6) (hi:0≤f.id∧f.id<32):CInv (frm2 c net kind f s).2.1 (frm2 c net kind f s).2.2:=by
 unfold Go.Proofs.Yteilffoclpgijaa.frm2;cases (kind==4)
 ·cases (f.kind==1||f.kind==3)
  ·rw [cond_false,cond_false];cases ((qcs (qbp c.cases f.id.toNat) f.id f).2.2 != 0)
   ·exact (h.setCase Ec (qx7 (h.cas _ Ec))).sent _
   ·exact h
  ·exact h.come Ec
 ·exact h
theorem CInv.frm {c:GCluster} {net:List ByteArray} (h:CInv c net) {a:GAct}:CInv (q3j c net a).2.1 (q3j c net a).2.2:=by
 unfold q3j;obtain ⟨hn,hi⟩:=q00 (byL (qo5 net a.n));cases decide (0≤a.n∧a.n<net.length)
 ·exact h
 ·rw [cond_true];refine CInv.frm2 ?_ hn hi;cases (a.kind==3)
  ·exact h.cut (fun s hs=>Du hs) (D0 ..)
  ·exact h
theorem CInv.pow {c:GCluster} {net:List ByteArray} (h:CInv c net) {a:GAct}:CInv (q3k c net a).2.1 (q3k c net a).2.2:=by
 unfold q3k;cases hp:q01 a
 ·exact h
 ·unfold q01 at hp;simp only [Xn,decide_eq_true_eq] at hp;obtain ⟨⟨h0,h6⟩,hm⟩:=hp;have hn:a.n.toNat<6:=by omega
  rw [cond_true];cases (!(qbp c.down a.n.toNat==(a.kind==8)))
  ·rw [cond_false];cases h7:(a.kind==7)
   ·rw [cond_false];cases (a.kind==6)
    ·have hr:CInv (q2n c a.n.toNat) net:=(h.setLog hn (x:=(qbp c.logs a.n.toNat).extract 0 (qcz (qbp c.logs a.n.toNat).data.toList).2) (by have:=h.log _ hn;rw [Br];omega)).setNode hn (b:=false) (qmv _ qg0) fun e=>by cases e
     exact hr
    ·exact h.fall hn
   ·rw [h7] at hm;simp only [Aa,Bool.not_not,decide_eq_true_eq] at hm;exact h.setTear hn ⟨by omega,by omega⟩
  ·exact h
theorem CInv.do {c:GCluster} {net:List ByteArray} (h:CInv c net) {a:GAct}:CInv (q1d c net a).2.1 (q1d c net a).2.2:=by
 unfold q1d;by_cases ha:c.acts≥400
 ·rw [qag (qaf ha)];exact h
 ·rw [qad (qae ha)];have hi:=h.act ha;unfold doA;cases (a.kind==1)
  ·rw [cond_false];cases (a.kind==2||(a.kind==3||a.kind==4))
   ·rw [cond_false];cases (a.kind==5)
    ·rw [cond_false];cases (a.kind==6||(a.kind==7||a.kind==8))
     ·exact hi
     ·exact hi.pow
    ·rw [cond_true];unfold q76;cases decide (0≤a.n∧a.n<({ c with acts:=c.acts+1 }:GCluster).begun)
     ·exact hi
     ·exact hi.sent _
   ·exact hi.frm
  ·exact hi.beg
def q47:GCluster:={ nodes:=Zr.zd,logs:=Zr.zd,down:=Zr.zd,tear:=Zr.zd,cases:=Zr.zd,begun:=Zr.zd,net:=Zr.zd,acts:=Zr.zd }
theorem q03 {fu:Nat}:qs2 fu=some (q47,[]):=rfl
theorem q48:CInv q47 []:=by
 refine ⟨⟨by show (0:Int)≤0;omega,by show (0:Int)≤400;omega⟩,⟨by show (0:Int)≤0;omega,by show (0:Int)≤32;omega⟩,fun n _=>?_,fun n _ _=>?_,fun n _=>?_,fun n _=>?_,fun n _=>?_,by simp,by simp⟩
 ·show GoodN (qbp (Zr.zd:Vector GNode 6) n);rw [qi4];exact qg0
 ·show qbp (Zr.zd:Vector GNode 6) n=ql2;rw [qi4];rfl
 ·show (qbp (Zr.zd:Vector ByteArray 6) n).size≤65536;rw [qi4];show (⟨#[]⟩:ByteArray).size≤65536;decide
 ·show 0≤qbp (Zr.zd:Vector Int 6) n∧qbp (Zr.zd:Vector Int 6) n≤401;rw [qi4];exact ⟨by show (0:Int)≤0;omega,by show (0:Int)≤401;omega⟩
 ·show qdd (qbp (Zr.zd:Vector GCase 32) n)=true;rw [qi4];exact qrx
theorem q49:qv8 70000=some true:=by decide +kernel
theorem qmy {fu:Nat} {l:List GOp} (h:l.length*24≤140737488351232):qc8 fu l=some l:=by
 have hb:Rep.bytes GOp=24:=rfl;unfold qc8;rw [qbs (by rw [hb];simpa using h)];rfl
theorem qrz {fu:Nat} {l:List ByteArray} (h:l.length≤1000):qgt fu l=some l:=by
 have hb:Rep.bytes ByteArray=16:=rfl;unfold qgt;rw [qbs (by rw [hb];simp only [Bk];omega)];rfl
theorem q04 {fu N:Nat} {e:GEntry} (h:ESz e N):qn6 fu e=some e:=by
 unfold qn6;rw [qmy h.ops.2,qaa,qck h.first.2,qaa,qck h.deps.2,qaa,qck h.at_.2,qaa,qck h.values.2,qaa]
 rfl
theorem qmz {fu N:Nat} {c:GCluster} {x:Int} (h0:0≤x) (h6:x<6) {s:GNode} (hs:NSz s N):∀ (n m k:Nat),k+m=32→m<n→qcd fu c x n s k=some (s,qbp c.down x.toNat)
 | 0,m,k,_,h=>absurd h Ec
 | n+1,0,k,hk,_=>by rw [qcd,qad (qae Ec),qay h0 h6,qaa,qmw h0 h6,qaa,qaa]
 | n+1,m+1,k,hk,hn=>by
  have hk32:k<32:=by omega
  rw [qcd,qag (qaf Ec),qay Ec Ec,qaa,qva hk32,qaa,q04 (hs.ent k),qaa,qaa,qaa,q5m hk32,qtq hk32,qaa,qaa,q5l k Ec];exact qmz h0 h6 hs n m (k+1) Ec Ec
theorem qqx {fu:Nat} (hfu:100≤fu) {c:GCluster} {net:List ByteArray} (h:CInv c net) {x:Int} (h0:0≤x) (h6:x<6):qfx fu c x=some (qbp c.nodes x.toNat,qbp c.down x.toNat):=by
 have hg:=h.node x.toNat Ec;unfold qfx qfw;rw [qad (qae Ec),qae Ec,cond_false,qgu,qay h0 h6,qaa,qmw h0 h6,qaa,qaa,qck hg.sizes.order.2,qaa,qaa];exact qmz h0 h6 hg.sizes fu 32 0 Ec Ec
theorem q05 {fu:Nat} {c:GCluster} {x:Int} (h0:0≤x) (h6:x<6):qqa fu c x=some (qbp c.logs x.toNat):=by
 unfold qqa qlc;rw [qad (qae Ec),qae Ec,cond_false,qne,qay h0 h6,qaa,qmw h0 h6,qaa]
theorem qo8 {c:GCase} (h:qdd c=true):c.ops.length≤4∧c.deps.length≤33:=by
 cases hb:c.begun
 ·unfold qdd at h;rw [hb] at h;simp only [cond_false,Xn,beq_iff_eq] at h;omega
 ·obtain ⟨h1,h2⟩:=qo7 h hb;have:=qdk h1;have:=qgw h2;omega
theorem qqy {fu:Nat} {c:GCluster} {net:List ByteArray} (h:CInv c net) {x:Int} (h0:0≤x) (h1:x<32):qgc fu c x=some (qbp c.cases x.toNat):=by
 obtain ⟨g1,g2⟩:=qo8 (h.cas x.toNat Ec);unfold qgc qfy;rw [qad (qae Ec),qae Ec,cond_false,qgv,qay h0 h1,qaa,qmw h0 h1,qaa,qaa,qmy Ec,qaa,qck Ec,qaa,qaa,qaa,qaa]
theorem qtw {fu:Nat} {c:GCluster} {net:List ByteArray} (h:CInv c net):qio fu c net=some (net,net):=by
 unfold qio;rw [qrz (by have:=h.net.1;omega),qaa]
theorem qez {a:List Int} (ha:a.length≤9000000000000000):∀ (n m k:Nat),a.length=k+m→m<n→qa0 a a n k=some true
 | 0,m,k,_,h=>absurd h Ec
 | n+1,0,k,hk,_=>by rw [qa0,qad (qae Ec)]
 | n+1,m+1,k,hk,hn=>by
  obtain ⟨x,hx⟩:∃ x,a[k]? = some x:=⟨a[k],by simp⟩;have:=qez ha n m (k+1) Ec Ec;rw [qa0,qag (qaf Ec),qa5,hx,qaa,qaa,qad (by simp),qc6 Ec Ec];simpa using this
theorem qa2 {a:List Int} {fu:Nat} (ha:a.length≤9000000000000000) (hf:a.length<fu):qaw fu a a=some true:=by
 rw [qaw,qad (by simp)];exact qez ha fu a.length 0 Ec hf
theorem qgb {a:List ByteArray} (ha:a.length≤9000000000000000):∀ (n m k:Nat),a.length=k+m→m<n→qbf a a n k=some true
 | 0,m,k,_,h=>absurd h Ec
 | n+1,0,k,hk,_=>by rw [qbf,qad (qae Ec)]
 | n+1,m+1,k,hk,hn=>by
  obtain ⟨x,hx⟩:∃ x,a[k]? = some x:=⟨a[k],by simp⟩;have:=qgb ha n m (k+1) Ec Ec;rw [qbf,qag (qaf Ec),qa5,hx,qaa,qaa,qad (by simp),qc6 Ec Ec];simpa using this
theorem qlq {a:List ByteArray} {fu:Nat} (ha:a.length≤9000000000000000) (hf:a.length<fu):qd2 fu a a=some true:=by
 rw [qd2,qad (by simp)];exact qgb ha fu a.length 0 Ec hf
theorem qlr {r:GReply} {fu:Nat} (ha:r.values.length≤1000) (hf:1100≤fu):qc3 fu r r=some true:=by
 unfold qc3 qce;rw [qag (by simp),qag (by simp),qa2 Ec Ec,qaa]
theorem qg1 {e:GEntry} (he:e.ops.length≤9000000000000000) {y:Int} {rec:Int→Option Bool}:∀ (n m k:Nat),e.ops.length=k+m→m<n→qba y rec e e n k=qcq y rec
 | 0,m,k,_,h=>absurd h Ec
 | n+1,0,k,hk,_=>by rw [qba,qad (qae Ec)]
 | n+1,m+1,k,hk,hn=>by
  obtain ⟨x,hx⟩:∃ x,e.ops[k]? = some x:=⟨e.ops[k],by simp⟩;have:=qg1 he (y:=y) (rec:=rec) n m (k+1) Ec Ec;rw [qba,qag (qaf Ec),qa5,hx,qaa,qaa,qad (by simp),qc6 Ec Ec];simpa using this
theorem qg2 {fu N:Nat} {s:GNode} (h:NSz s N) (hf:N≤fu):∀ (n m k:Nat),k+m=32→m<n→qax fu s s n k=some true
 | 0,m,k,_,h=>absurd h Ec
 | n+1,0,k,hk,_=>by
  rw [qax,qad (qae Ec),qa2 (by have:=h.order.2;omega) (by have:=h.order.1;omega),qaa,cond_true,qdb,qaf rfl]
 | n+1,m+1,k,hk,hn=>by
  have hk32:k<32:=by omega
  have he:=h.ent k;rw [qax,qag (qaf Ec),qay Ec Ec,qaa,qva hk32,qaa,qaa,qaa,qaa,qaa,qeo,qad (by simp),qad (by simp),qa2 (by have:=he.first.2;omega) (by have:=he.first.1;omega),qaa,qad (c := !true) rfl,
   qa2 (by have:=he.deps.2;omega) (by have:=he.deps.1;omega),qaa,qad (c := !true) rfl,qa2 (by have:=he.at_.2;omega) (by have:=he.at_.1;omega),qaa,qad (c := !true) rfl,
   qa2 (by have:=he.values.2;omega) (by have:=he.values.1;omega),qaa,qbl,qad (c := !true) rfl,qen]
  have h2:=qg1 (e:=eat s.entries k) (by have:=he.ops.2;omega) (y:=(k:Int)) (rec:=qax fu s s n) fu (eat s.entries k).ops.length 0 Ec (by have:=he.ops.1;omega);have h2:qba k (qax fu s s n) (eat s.entries k) (eat s.entries k) fu 0=qcq k (qax fu s s n):=h2;rw [h2,qcq,q5l k Ec];exact qg2 h hf n m (k+1) Ec Ec
theorem ql5 {fu N:Nat} {s:GNode} (h:NSz s N) (hf:N+40≤fu):qf9 fu s s=some true:=qg2 h Ec fu 32 0 Ec Ec
theorem qg3 {fu:Nat} {c:GCase} (hc:c.ops.length≤4) (hd:c.deps.length≤33) (hf:40≤fu):∀ (n m k:Nat),c.ops.length=k+m→m<n→qbm fu c c n k=some true
 | 0,m,k,_,h=>absurd h Ec
 | n+1,0,k,hk,_=>by
  rw [qbm,qad (qae Ec),qag (by simp),qag (by simp),qag (by simp),qag (by simp),qa2 Ec Ec,qaa,cond_true,qag (by simp),qbb,qaf rfl]
 | n+1,m+1,k,hk,hn=>by
  obtain ⟨x,hx⟩:∃ x,c.ops[k]? = some x:=⟨c.ops[k],by simp⟩;have:=qg3 hc hd hf n m (k+1) Ec Ec;rw [qbm,qag (qaf Ec),qa5,hx,qaa,qaa,qad (by simp),qc6 Ec Ec];simpa using this
theorem ql6 {fu:Nat} {c:GCase} (hc:c.ops.length≤4) (hd:c.deps.length≤33) (hf:40≤fu):qew fu c c=some true:=by
 rw [qew,qad (by simp)];exact qg3 hc hd hf fu c.ops.length 0 Ec Ec
structure Alike (c d:GCluster):Prop where
 nodes:c.nodes=d.nodes
 down:c.down=d.down
 logs:c.logs=d.logs
 cases:c.cases=d.cases
theorem Alike.refl (c:GCluster):Alike c c:=⟨rfl,rfl,rfl,rfl⟩
theorem qo9 (c:GCluster) (x:Int):(qx3 c x).values.length≤4:=by
 show (qdl (qbp c.cases x.toNat)).1.length≤4;unfold qdl;cases ((qbp c.cases x.toNat).begun&&(qdd (qbp c.cases x.toNat)&&(qd5 (qbp c.cases x.toNat) 0&&qd5 (qbp c.cases x.toNat) 1)))
 ·simp
 ·simp only [cond_true,A9,Vector.length_toList];omega
theorem comeZ_acts {c:GCluster} {net:List ByteArray} {n:Nat} {f:GFrame} {s:ByteArray}:(qgj c net n f s).2.1.acts=c.acts∧(qgj c net n f s).2.1.begun=c.begun∧(qgj c net n f s).2.1.cases=c.cases:=by
 unfold qgj;cases qbp c.down n
 ·cases ((qde (qbp c.nodes n) n f).2.2 != 0)
  ·cases decide (qbp c.tear n>0)
   ·cases (qf5 (qbp c.logs n) s != 0)<;>exact ⟨rfl,rfl,rfl⟩
   ·exact ⟨rfl,rfl,rfl⟩
  ·exact ⟨rfl,rfl,rfl⟩
 ·exact ⟨rfl,rfl,rfl⟩
theorem frm2_acts {c:GCluster} {net:List ByteArray} {k:Int} {f:GFrame} {s:ByteArray}:(frm2 c net k f s).2.1.acts=c.acts∧(frm2 c net k f s).1.values.length≤4:=by
 unfold frm2;cases (k==4)
 ·cases (f.kind==1||f.kind==3)
  ·cases ((qcs (qbp c.cases f.id.toNat) f.id f).2.2 != 0)
   ·exact ⟨rfl,qo9 _ _⟩
   ·exact ⟨rfl,Xs _⟩
  ·refine ⟨comeZ_acts.1,?_⟩;show (bif (qgj c net f.node.toNat f s).1 != 0 then qpr (qgj c net f.node.toNat f s).1 else okR f.id []).values.length≤4;cases ((qgj c net f.node.toNat f s).1 != 0)<;>exact Xs _
 ·exact ⟨rfl,Xs _⟩
theorem qx8 {c:GCluster} {net:List ByteArray} {a:GAct}:(q1d c net a).1.values.length≤4:=by
 unfold q1d;cases decide (c.acts≥400)
 ·rw [cond_false];generalize ({ c with acts:=c.acts+1 }:GCluster)=d;unfold doA;cases (a.kind==1)
  ·rw [cond_false];cases (a.kind==2||(a.kind==3||a.kind==4))
   ·rw [cond_false];cases (a.kind==5)
    ·rw [cond_false];cases (a.kind==6||(a.kind==7||a.kind==8))
     ·exact Xs _
     ·rw [cond_true];unfold q3k;cases q01 a
      ·exact Xs _
      ·rw [cond_true];cases (!(qbp d.down a.n.toNat==(a.kind==8)))
       ·rw [cond_false];cases (a.kind==7)
        ·rw [cond_false];cases (a.kind==6)<;>exact Xs _
        ·exact Xs _
       ·exact Xs _
    ·rw [cond_true];unfold q76;cases decide (0≤a.n∧a.n<d.begun)
     ·exact Xs _
     ·exact qo9 _ _
   ·rw [cond_true];unfold q3j;cases decide (0≤a.n∧a.n<net.length)
    ·exact Xs _
    ·exact frm2_acts.2
  ·rw [cond_true];unfold q45;cases decide (d.begun≥32)
   ·rw [cond_false];cases ((qga { id:=d.begun,ops:=a.ops }).2.2 != 0)<;>exact Xs _
   ·exact Xs _
 ·exact Xs _
set_option linter.unusedVariables false
def EJ (J:List Ent) (ce:List Value):Prop:=∃ v1 v2 v3 v4 v5,(sl ce 1 1=[v1]∧Ent.row v1 65 3∈J)∧(sl ce 2 1=[v2]∧Ent.row v2 3 1∈J)∧(sl ce 3 1=[v3]∧Ent.row v3 3 1∈J)∧(sl ce 4 1=[v4]∧Ent.row v4 3 1∈J)∧(sl ce 5 1=[v5]∧Ent.row v5 3 1∈J)
theorem EJ.mono {J J':List Ent} {ce:List Value} (h:EJ J ce) (hs:∀ e∈J,e∈J'):EJ J' ce:=by
 obtain ⟨v1,v2,v3,v4,v5,⟨a1,b1⟩,⟨a2,b2⟩,⟨a3,b3⟩,⟨a4,b4⟩,a5,b5⟩:=h;exact ⟨v1,v2,v3,v4,v5,⟨a1,hs _ b1⟩,⟨a2,hs _ b2⟩,⟨a3,hs _ b3⟩,⟨a4,hs _ b4⟩,a5,hs _ b5⟩
def NJ (J:List Ent) (cs:List Value) (n:Nat):Prop:=(∃ v,sl cs 192 1=[v]∧Ent.row v 3 1∈J)∧∀ i,i<n→EJ J (sl cs (i*6) 6)
theorem NJ.mono {J J':List Ent} {cs cs':List Value} {n m:Nat} (h:NJ J cs n) (hs:∀ e∈J,e∈J') (hm:m≤n) (h1:sl cs' 192 1=sl cs 192 1) (h2:∀ i,i<m→sl cs' (i*6) 6=sl cs (i*6) 6):NJ J' cs' m:=by
 obtain ⟨⟨v,a,b⟩,c⟩:=h;refine ⟨⟨v,h1.trans a,hs _ b⟩,fun i hi=>?_⟩;rw [h2 i hi];exact (c i Ec).mono hs
theorem qtx {cs cs':List Value} {o n:Nat} (h:sl cs' 0 201=sl cs 0 201) (ho:o+n≤201):sl cs' o n=sl cs o n:=by
 have e1:=qnj cs' (o1:=0) ho;have e2:=qnj cs (o1:=0) ho;rw [Ax] at e1 e2;rw [← e1,← e2,h]
set_option maxRecDepth 100000 in
set_option maxHeartbeats 4000000 in
theorem qx9 {M:Mm} {w:World} {bx1:Nat} {cx1:List Value} {x1:GCluster} {x2:Int} {fu:Nat} {r:GNode × Bool} (h0:0≤x2) (h6:x2<6) (hS:St w (qac [.box bx1 cx1 90]) M [.box bx1 cx1 90] w) (hcx1:rep M cx1 x1) (hz:qfx fu x1 x2=some r) :
 Calls Try.prog 17 #[.pointer (some ⟨bx1,0,none⟩),.int .i64 x2] w (qa8 M w [.box bx1 cx1 90] (fun M' u L'=>∃ c0 J,u= .tuple #[.agg c0.toArray,.bool r.2]∧L'= .box bx1 cx1 90::J∧rep M' c0 r.1∧(∀ e∈J,Rw e)∧NJ J c0 32)):=by
 refine qlv Try.func17 48 fun T hT=>?_;have hT_0:T 0= .pointer (some ⟨bx1,0,none⟩):=hT 0;have hT_1:T 1= .int .i64 x2:=hT 1;clear hT;rw [qfx] at hz;refine qan ?_;refine qat ?_;refine qgk (qh7 q6b hS ?_);intro b4 w3 hb4 hS;have zb4:rep M (Zr.zc GNode) (Zr.zd:GNode):=Zr.zr;refine qam (qas (.bool false) rfl) ?_;refine qaj (qab ?_);refine qvu (fun T' w'=>∃ M6 cs8 d9,Mm.ext w.heap.size (qac [.box bx1 cx1 90]) M M6∧St w (qac [.box bx1 cx1 90]) M6 [.box b4 cs8 34,.box bx1 cx1 90] w'∧rep M6 cs8 d9∧T' 0= .pointer (some ⟨bx1,0,none⟩)∧T' 1= .int .i64 x2∧T' 4= .pointer (some ⟨b4,0,none⟩)∧qgu fu x1 x2 d9=some r) ?_ ?_
 ·skip;refine qvu (fun T' w'=>∃ M71,Mm.ext w.heap.size (qac [.box bx1 cx1 90]) M M71∧St w (qac [.box bx1 cx1 90]) M71 [.box b4 (Zr.zc GNode) 34,.box bx1 cx1 90] w'∧T' 0= .pointer (some ⟨bx1,0,none⟩)∧T' 1= .int .i64 x2∧T' 4= .pointer (some ⟨b4,0,none⟩)∧T' 17= .bool false∧qfw fu x1 x2 false=some r) ?_ ?_
  ·skip;refine qat ?_;refine qam (qai (.pointer (some ⟨bx1,0,none⟩)) hT_0) ?_;refine qam (qyx rfl rfl Try.underlying23) ?_;refine qam (qai (.bool false) rfl) ?_;refine q4l (qai (.int .i64 x2) hT_1) ?_;refine q4l (qm0 rfl rfl) ?_;refine qam (qku (.bool (decide (x2<0))) rfl rfl) ?_;refine qam (qai (.bool (decide (x2<0))) rfl) ?_;have hc82:decide (x2<0)=false:=qae Ec;have hc83:decide (x2≥6)=false:=qae Ec;replace hz:=qvs hz hc82;rw [hc83] at hz;refine qwt rfl (bf hc82 rfl) (qai (.int .i64 x2) hT_1) ?_;refine qwt rfl (bf hc82 rfl) (q5t rfl rfl) ?_;refine qam (qku (.bool (decide (x2≥6))) (bf hc82 rfl) rfl) ?_;refine qaj (qab ?_);exact ⟨M,(Mm.ext.refl _ _ _),hS,hT_0,hT_1,rfl,(bf hc83 rfl),hz⟩
  ·rintro T72 w70 ⟨M71,hx74,hS,hT72_0,hT72_1,hT72_4,hT72_17,hz⟩;replace zb4:=Ag hx74.1 zb4;rw [qfw] at hz;refine q9g hz hT72_17 (fun hc75 hz=>?_) fun hc75 hz=>?_
   ·cases hc75
   ·skip;refine qfa (qab ?_);exact ⟨M71,(Zr.zc GNode),(Zr.zd:GNode),hx74,hS,zb4,hT72_0,hT72_1,hT72_4,hz⟩
 ·rintro T7 w5 ⟨M6,cs8,d9,hx10,hS,hb8,hT7_0,hT7_1,hT7_4,hz⟩;replace hcx1:=Ag hx10.1 hcx1;rw [qgu] at hz;refine qan ?_;refine qat ?_;refine qam (qai (.pointer (some ⟨bx1,0,none⟩)) hT7_0) ?_;refine qam (qai (.int .i64 x2) hT7_1) ?_;refine qam (q3o rfl) ?_;refine qam (qq0 q26 rfl) ?_;obtain ⟨u11,hx12,hz⟩:=qcg hz;obtain ⟨hx12a,hx12b⟩:=qjc hx12;refine qam (qwv q1r rfl rfl hx12a hx12b) ?_;obtain ⟨x13,hx14,hz⟩:=qcg hz;have ha15:=(vp (k:=201) rfl rfl (GCluster.p0 (rr hcx1)) hx14);refine qam (qpd q7k rfl (hS.bvB 1 rfl) (Xg ha15)) ?_;refine qgk (qh7 q6b hS ?_);intro b17 w16 hb17 hS;have zb17:rep M6 (Zr.zc GNode) (Zr.zd:GNode):=Zr.zr;obtain ⟨d20,hd19,hz⟩:=qcg hz;refine qgk (O_sr 0 201 hS zb17 ha15 (Lf (rr zb17) ha15) hd19 ?_);intro cs19 w18 hb19 ha19 hs19 hS;refine qaj (qab ?_);refine qan ?_;refine qat ?_;refine qam (qq0 qv1 rfl) ?_;obtain ⟨v21,ev21,hv21⟩:=(GNode.p1 (rr hb19));refine qam (qjr v21 q1q rfl (hS.bvB 0 rfl) ev21) ?_;obtain ⟨r24,hr23,hz⟩:=qcg hz;refine qgk (qjx (vs:=[v21]) (L:=[]) (R:=[.box b17 cs19 34,.box b4 cs8 34,.box bx1 cx1 90]) (rv:=(fun M' u L'=>∃ v0,u=v0∧L'=[.row v0 3 1]∧repL M' v0 r24)) cb44 (qm2 rfl) hS (hS.sel [0,1,2] Ed rfl) (fun hS=>qif hS.agree hv21 hr23) ?_);rintro u23 M23 w22 L23 hx23 ⟨v0_23,rfl,hL23,f23_0⟩ hS;replace hS:=hS _ hL23;replace hcx1:=Ag hx23.1 hcx1;replace hb8:=Ag hx23.1 hb8;replace hb19:=Ag hx23.1 hb19;refine qam (qq0 qv1 rfl) ?_;obtain ⟨d28,hd27,hz⟩:=qcg hz;refine qgk (q55 1 1 hS rfl hb19 rfl rfl (qm4 f23_0) (qpz f23_0) rfl (GNode.u1 (rr hb19) (Lf (GNode.p1 (rr hb19)) (qm4 f23_0))) hd27 ?_);intro cs27 w26 hb27 ha27 hs27 hS;replace hS:St w (qac [.box bx1 cx1 90]) M23 ([.box b17 cs27 34,.box b4 cs8 34,.box bx1 cx1 90]++[.row u23 3 1]) w26:=hS.sel (H':=[.box b17 cs27 34,.box b4 cs8 34,.box bx1 cx1 90,.row u23 3 1]) [1,2,3,0] Ed rfl;refine qaj (qab ?_);refine qan ?_;refine qan ?_;refine qat ?_;refine qam (qai (.int .i64 0) rfl) ?_;refine qaj (qab ?_);refine qcf ?_;refine qju (fun k36 T' w'=>∃ M30 cs32 d33 y34 J,Mm.ext w.heap.size (qac [.box bx1 cx1 90]) M23 M30∧St w (qac [.box bx1 cx1 90]) M30 ([.box b17 cs32 34,.box b4 cs8 34,.box bx1 cx1 90]++J) w'∧rep M30 cs32 d33∧0≤y34∧(∀ e∈J,Rw e)∧NJ J cs32 y34.toNat∧T' 0= .pointer (some ⟨bx1,0,none⟩)∧T' 1= .int .i64 x2∧T' 4= .pointer (some ⟨b4,0,none⟩)∧T' 6= .pointer (some ⟨b17,0,none⟩)∧T' 29= .int .i64 y34∧qcd fu x1 x2 k36 d33 y34=some r) fu ?_ ?_ ?_
  ·exact ⟨M23,cs27,d28,(0:Int),_,(Mm.ext.refl _ _ _),hS,hb27,Int.le_refl _,fun e he=>⟨u23,3,1,Xu.1 he⟩,⟨⟨u23,by have:=hs27;rwa [Ax] at this,Xk⟩,fun i hi=>absurd hi (D5 i)⟩,hT7_0,hT7_1,hT7_4,rfl,rfl,hz⟩
  ·rintro T' w' ⟨_,_,_,_,_,_,_,_,_,_,_,_,_,_,_,_,hz⟩;rw [qcd] at hz;cases hz
  ·intro k36;rintro T31 w29 ⟨M30,cs32,d33,y34,J,hx38,hS,hb32,hy0,hJ,hN,hT31_0,hT31_1,hT31_4,hT31_6,hT31_29,hz⟩;replace hcx1:=Ag hx38.1 hcx1;replace hb8:=Ag hx38.1 hb8;rw [qcd] at hz;obtain ⟨rec35,hrec35⟩:∃ f,f=qcd fu x1 x2 k36:=⟨_,rfl⟩;rw [← hrec35] at hz;refine qan ?_;refine qat ?_;refine qam (qm0 hT31_29 rfl) ?_;refine qaj (qab ?_);refine qan ?_;refine q9g hz rfl (fun hc39 hz=>?_) fun hc39 hz=>?_
   ·have hy32:y34<32:=of_decide_eq_true hc39;refine qfa (qab ?_);refine qan ?_;refine qcf ?_;refine qan ?_;refine qat ?_;refine qam (qai (.int .i64 y34) hT31_29) ?_;refine qam (qas (.int .i64 y34) rfl) ?_;refine qaj (qab ?_);refine qat ?_;refine qam (qai (.int .i64 y34) rfl) ?_;refine qam (qai (.int .i64 y34) rfl) ?_;refine qam (qq0 qv0 hT31_6) ?_;obtain ⟨u40,hx41,hz⟩:=qcg hz;obtain ⟨hx41a,hx41b⟩:=qjc hx41;refine qam (qwv qvz rfl rfl hx41a hx41b) ?_;obtain ⟨x42,hx43,hz⟩:=qcg hz;have ha44:=(vp (k:=6) rfl rfl (GNode.p0 (rr hb32)) hx43);refine qam (qpd q1a rfl (hS.bvB 0 rfl) (Xg ha44)) ?_;obtain ⟨r47,hr46,hz⟩:=qcg hz;refine qgk (qjx (vs:=[.agg (sl cs32 (0+0+Int.toNat y34*6) 6).toArray]) (L:=[]) (R:=[.box b17 cs32 34,.box b4 cs8 34,.box bx1 cx1 90]++J) (rv:=(fun M' u L'=>∃ c0 uR0 uR1 uR2 uR3 uR4,u= .agg c0.toArray∧L'=[.row uR0 65 3,.row uR1 3 1,.row uR2 3 1,.row uR3 3 1,.row uR4 3 1]∧rep M' c0 r47∧sl c0 1 1=[uR0]∧sl c0 2 1=[uR1]∧sl c0 3 1=[uR2]∧sl c0 4 1=[uR3]∧sl c0 5 1=[uR4])) cb45 (qm2 rfl) hS hS (fun hS=>qzz hS.agree ha44 hr46) ?_);rintro u46 M46 w45 L46 hx46 ⟨c46,q0,q1,q2,q3,q4,rfl,hL46,f46,g0,g1,g2,g3,g4⟩ hS;replace hS:=(hS _ hL46).perm (List.perm_append_comm_assoc _ _ _);replace hb32:=Ag hx46.1 hb32;refine qam (qq0 qv0 hT31_6) ?_;obtain ⟨u48,hx49,hz⟩:=qcg hz;obtain ⟨hx49a,hx49b⟩:=qjc hx49;refine qam (qwv qvz rfl rfl hx49a hx49b) ?_;obtain ⟨x52,hx53,hz⟩:=qcg hz;obtain ⟨a54,hx55,hz⟩:=qcg hz;obtain ⟨d56,hd51,hz⟩:=qcg hz;refine qgk (q55 0 6 hS rfl hb32 rfl rfl f46 rfl rfl (GNode.u0 (rr hb32) (vu (k:=6) rfl rfl (GNode.p0 (rr hb32)) (Lf (vp (k:=6) rfl rfl (GNode.p0 (rr hb32)) hx53) f46) hx55)) hd51 ?_);intro cs51 w50 hb51 ha51 hs51 hS;refine qaj (qjw ?_);refine (qab ?_);refine qat ?_;refine qam (qpc hT31_29 rfl) ?_;refine qam (qai (.int .i64 (IntKind.wrap .i64 (y34+1))) rfl) ?_;refine qaj (qab ?_);have hw:IntKind.wrap .i64 (y34+1)=y34+1:=qc6 Ec Ec;have hN':NJ ([.row q0 65 3,.row q1 3 1,.row q2 3 1,.row q3 3 1,.row q4 3 1]++J) cs51 (IntKind.wrap .i64 (y34+1)).toNat:=by
     rw [hw];have h1:=hN.mono (J':=[.row q0 65 3,.row q1 3 1,.row q2 3 1,.row q3 3 1,.row q4 3 1]++J) (cs':=cs51) (fun e he=>Ak _ he) (Xx _) (ha51 Ec) fun i hi=>ha51 Ec;refine ⟨h1.1,fun i hi=>?_⟩;by_cases e:i<y34.toNat
     ·exact h1.2 i e
     ·have e:i=y34.toNat:=by omega
      subst e;have hs:sl cs51 (y34.toNat*6) 6=c46:=by
       have:=hs51;rwa [show 0+0+Int.toNat y34*6=y34.toNat*6 by omega] at this
      rw [hs];exact ⟨q0,q1,q2,q3,q4,⟨g0,by simp⟩,⟨g1,by simp⟩,⟨g2,by simp⟩,⟨g3,by simp⟩,g4,by simp⟩
    exact ⟨M46,cs51,d56,(IntKind.wrap .i64 (y34+1)),_,(hx38.trans hx46),hS,hb51,by rw [hw];omega,fun e he=>by
     rcases Xr.1 he with he | he
     ·simp only [Xm,Bh,or_false] at he
      rcases he with rfl | rfl | rfl | rfl | rfl<;>exact ⟨_,_,_,rfl⟩
     ·exact hJ e he,hN',hT31_0,hT31_1,hT31_4,hT31_6,rfl,(by rw [← hrec35];exact hz)⟩
   ·have hy32:¬ y34<32:=of_decide_eq_false hc39;refine qh1 ?_;refine qb4 ?_;refine qb4 ?_;refine qh9 ?_;refine (qab ?_);refine qan ?_;refine q73 [.box b17 cs32 34,.box bx1 cx1 90] [] mixed hS fun w57 hS hG58 hR59=>?_;have ha60:=(rr hb32);refine wld 0 rfl (qpd q7k hT31_6 (bvR 0 rfl) (Xg ha60)) hR59 ?_;refine wyv 1 rfl (qai (.pointer (some ⟨bx1,0,none⟩)) hT31_0) hR59 ?_;refine wyv 2 rfl (qai (.int .i64 x2) hT31_1) hR59 ?_;refine wyv 3 rfl (q3o rfl) hR59 ?_;refine wyv 4 rfl (qq0 q27 rfl) hR59 ?_;obtain ⟨u61,hx62,hz⟩:=qcg hz;obtain ⟨hx62a,hx62b⟩:=qjc hx62;refine wyv 5 rfl (qwv ia45 rfl rfl hx62a hx62b) hR59 ?_;obtain ⟨x63,hx64,hz⟩:=qcg hz;refine wld 6 rfl (qjr (.bool x63) ts4 rfl (bvR 1 rfl) (vp (k:=1) rfl rfl (GCluster.p2 (rr hcx1)) hx64)) hR59 ?_;obtain ⟨d67,hd66,hz⟩:=qcg hz;refine w1 7 rfl (q55 1 201 hS rfl hb8 hT31_4 rfl ha60 rfl rfl (Lf (rr hb8) ha60) hd66 ?_);intro cs66 w65 hb66 ha66 hs66 hS;replace hS:St w (qac [.box bx1 cx1 90]) M30 ([.box b17 cs32 34,.box b4 cs66 34,.box bx1 cx1 90]++J) w65:=hS;refine rdn hS hG58 fun hR68=>?_;refine wyv 8 rfl (qas (.bool x63) rfl) hR68 ?_;refine wd (qab ?_);have hN':NJ J cs66 32:=hN.mono (fun e he=>he) Ec (qtx hs66 Ed) fun i hi=>qtx hs66 Ec;cases hz;exact qws (q1l (j:=1) rfl hT31_4 rfl (tan q7k hb66) hS rfl ⟨_,M30,_,rfl,(hx10.trans (hx23.trans hx38)),hS.drop.drop,cs66,J,rfl,rfl,hb66,hJ,hN'⟩)
set_option maxRecDepth 100000 in
set_option maxHeartbeats 4000000 in
theorem q2q {M:Mm} {w:World} {v:Value} {xs:List Value} (hS:St w (qac [.stk v 3 1 xs]) M [.stk v 3 1 xs] w) :
 Calls Try.prog 43 #[v] w (qa8 M w [.stk v 3 1 xs] (fun M' u L'=>∃ xs',u= .tuple #[]∧M'=M∧L'=[.stk v 3 1 xs'])):=by
 obtain ⟨⟨nn,hown⟩,_⟩:=hS.ents _ Xk;obtain ⟨a,cap,hv,hcap,hxl,hblk⟩:=qlt hown;refine qlv Try.func43 12 fun T hT=>?_;have hT_0:T 0=v:=hT 0;clear hT;refine qan ?_;refine qat ?_;refine qam (qai v hT_0) ?_;refine qam (qnl Try.underlying28 (tr2 hv rfl)) ?_;refine qam (qai (.int .i64 0) rfl) ?_;refine qaj (qab ?_);refine qcf ?_;refine qju (fun k T' w'=>∃ (xs':List Value) (y:Nat),St w (qac [.stk v 3 1 xs]) M [.stk v 3 1 xs'] w'∧y≤nn∧y+k=nn+1∧T' 0=v∧T' 4= .int .i64 (nn:Int)∧T' 5= .int .i64 (y:Int)) (nn+1) ?_ ?_ ?_
 ·exact ⟨xs,0,hS,Xs _,by omega,hT_0,rfl,rfl⟩
 ·rintro T' w' ⟨_,y,_,h1,h2,_⟩;omega
 ·rintro k T1 w1 ⟨xs',y,hS,h1,h2,hT1_0,hT1_4,hT1_5⟩;refine qan ?_;refine qat ?_;refine qam (qm0 hT1_5 hT1_4) ?_;refine qaj (qab ?_);refine qan ?_;refine qe9 rfl (fun hc=>?_) (fun hc=>?_)
  ·have hlt:y<nn:=by have:=of_decide_eq_true hc;omega
   obtain ⟨b,hb,_⟩:=hblk y hlt;have hv':v= .slice (some ⟨b,0,none⟩) nn cap:=by rw [hv,hb]
   refine qfa (qab ?_);refine qan ?_;refine qcf ?_;refine qan ?_;refine qat ?_;refine qam (qai (.int .i64 (y:Int)) hT1_5) ?_;refine qam (qas (.int .i64 (y:Int)) rfl) ?_;refine qaj (qab ?_);refine qat ?_;refine qam (qai v hT1_0) ?_;refine qam (qai (.int .i64 (y:Int)) rfl) ?_;refine qam (qt1 il28 rfl hv' rfl Ec Ec) ?_;refine qgk (q7a (i:=(y:Int)) (k:=1) (ws:=[.int .i64 (-7)]) 0 hS rfl hv' rfl Ec Ec rfl rfl rfl (by simp [Value.oneCell']) Ee ?_);intro xs2 w2 hS;refine qaj (qjw ?_);refine (qab ?_);refine qat ?_;refine qam (qpc hT1_5 rfl) ?_;refine qam (qai (.int .i64 (IntKind.wrap .i64 ((y:Int)+1))) rfl) ?_;refine qaj (qab ?_);have hmax:nn≤maxLen:=by
    obtain ⟨⟨n2,hown2⟩,_⟩:=hS.ents _ Xk;obtain ⟨_,⟨e1,_⟩ | ⟨_,cap2,_,e1,_,_,e2,e3,_⟩⟩:=hown2
    ·rw [hv'] at e1;cases e1
    ·rw [hv'] at e1;simp only [Value.slice.injEq] at e1;omega
   refine ⟨xs2,y+1,hS,hlt,by omega,hT1_0,hT1_4,?_⟩;have hw:IntKind.wrap .i64 ((y:Int)+1)=((y+1:Nat):Int):=by
    unfold maxLen at hmax;rw [qc6 Ec Ec];omega
   rw [← hw];rfl
  ·refine qh1 ?_;refine qb4 ?_;refine qb4 ?_;refine qh9 ?_;exact qq5 (q7j rfl ⟨_,M,_,rfl,(Mm.ext.refl _ _ _),hS,xs',rfl,rfl,rfl⟩)
section
variable {P:Program} {n:Nat} {Q:Exit→Tm→World→Prop} {T:Tm} {w w0:World} {X:Nat→Prop} {M:Mm} {H J:List Ent} {K:Tm→World→Prop} {dst:Option Tmp} {ty:TypeId} {pos:String} {af:Array Go.Edge} {g:Option (Nat × Bool)}
theorem qkr {args:List Operand} {ats:Array TypeId} {v:Value} (ha:args.map (evT T)=[v]) (hSt:St w0 X M (H++J) w) (hm:some (v,3,1)∈J.map qge)
 (k:∀ J' w',J'.map qge=J.map qge→St w0 X M (H++J') w'→K (qkb T dst (.tuple #[])) w'):OW Try.prog n Q ⟨dst,.call ⟨.value (.func 43),args.toArray,ats⟩,ty,pos,af,g⟩ T w K:=by
 obtain ⟨a,ha',hk⟩:=Be.1 hm;obtain ⟨j,hj⟩:=X4 ha';cases a with
 | box=>cases hk
 | row=>cases hk
 | stk v' e' k' xs =>
  cases hk;have hlt:=(Xi.1 hj).1;have hj':(H++J)[H.length+j]? = some (.stk v 3 1 xs):=by rw [Ah Ec,Bp];exact hj
  have hF:St w0 X M ([.stk v 3 1 xs]++(H++J).eraseIdx (H.length+j)) w:=hSt.perm (qdm hj');obtain ⟨fn,c,hf,hname,hb⟩:=cb43;refine ql9 hf hname hb ha (q2q hF.lent) fun en w' ⟨u,M',L',he,hx,hs,xs',hu,hM,hL⟩=>?_;subst hu;subst hM;subst hL;obtain ⟨h1,_⟩:=hF.lend hs hx;refine ⟨_,he,k (J.set j (.stk v 3 1 xs')) w' ?_ ?_⟩
  ·rw [List.map_set];refine Bm fun q=>?_;rw [Dq];by_cases eq:j=q
   ·subst eq;rw [if_pos rfl,if_pos (by simpa using hlt),X6,hj];rfl
   ·rw [if_neg eq]
  ·have h1':St w0 X _ (Ent.stk v 3 1 xs'::(H++J).eraseIdx (H.length+j)) w':=h1;have h2:=h1'.perm (qel (Ent.stk v 3 1 xs') hj');rw [B8 _ _ Ec,Bp] at h2;exact h2
end
theorem Thw.key {J J2:List Ent} (h:Thw J J2) {v:Value} {t:TypeId} {k:Nat} (hm:Ent.row v t k∈J):some (v,t,k)∈J2.map qge:=by
 obtain ⟨xs,hx⟩:=h.mem hm;exact Be.2 ⟨_,hx,rfl⟩
theorem q5a {M M2:Mm} {v:Value} {xs:List Value} {l:List ByteArray} (h:skr M v xs l):skr M2 v xs l:=⟨h.1,h.2.1,h.2.2.1,fun i x hx=>h.2.2.2 i x hx⟩
theorem q06 {M:Mm} {w:World} {v:Value} {e:TypeId} {xs:List Value} {l:List Int} (hA:Agree M w) (hs:q3m M w v e 1 xs) (hk:skr M v xs l):∃ M1,Agree M1 w∧M.le M1∧repL M1 v l:=by
 obtain ⟨⟨n,hxl,⟨rfl,rfl⟩ | ⟨b,cap,cur,rfl,_,hh,hnc,hcm,hcs,htake⟩⟩,hM⟩:=hs
 ·obtain ⟨⟨a,cap,hv,hc⟩,_⟩:=hk;simp only [Value.slice.injEq] at hv;have:l=[]:=X2.1 hv.2.1.symm;subst this;exact ⟨M,hA,Mm.le.refl M,qi7 M⟩
 ·obtain ⟨⟨a,cap',hv,hc⟩,hb,hl,hr⟩:=hk;simp only [Value.slice.injEq] at hv;obtain ⟨rfl,rfl,rfl⟩:=hv;refine ⟨M.put b xs,fun c p hc=>?_,fun c p hc=>?_,some ⟨b,0,none⟩,cap,rfl,hnc,(fun h=>by cases h),hb,fun i x hx=>?_⟩
  ·by_cases hcb:c=b
   ·subst hcb;rw [Mm.put_same] at hc;cases hc;exact ⟨cur,e,(0,0),hh,by rw [← htake];exact By _ _⟩
   ·rw [Mm.put_other _ _ hcb] at hc;exact hA c p hc
  ·have hcb:c≠b:=fun h=>by
    subst h;have:=hM c rfl;rw [this] at hc;cases hc
   exact ⟨p,(Mm.put_other _ _ hcb).trans hc,A3 _⟩
  ·have hi:=(Xi.1 hx).1;have hl:xs.length=l.length*1:=hl;refine ⟨b,0,xs,rfl,Mm.put_same _ _ _,?_,?_⟩
   ·show 0+i*1+1≤xs.length;omega
   ·rw [Ax];exact hr i x hx
theorem qya {cs:List Value} {o n:Nat} (h:∀ u∈cs,u.oneCell'=true):∀ u∈sl cs o n,u.oneCell'=true:=fun u hu=>h u (List.mem_of_mem_drop (List.mem_of_mem_take hu))
section
variable {P:Program} {n:Nat} {Q:Exit→Tm→World→Prop} {T:Tm} {w w0:World} {X:Nat→Prop} {M:Mm} {H J:List Ent} {K:Tm→World→Prop} {dst:Option Tmp} {ty:TypeId} {pos:String} {af:Array Go.Edge} {g:Option (Nat × Bool)}
theorem St.tail_shape2 {v:Value} {e:TypeId} {k:Nat} (hSt:St w0 X M (H++J) w) (hm:some (v,e,k)∈J.map qge):∃ a nn cap,v= .slice a nn cap∧nn≤maxLen∧∀ i:Nat,i<nn→∃ b,a=some ⟨b,0,none⟩:=by
 obtain ⟨a,ha,hk⟩:=Be.1 hm;cases a with
 | box=>cases hk
 | row=>cases hk
 | stk v' e' k' xs =>
  cases hk;obtain ⟨⟨m,hown⟩,_⟩:=hSt.ents _ (Ak _ ha);obtain ⟨_,⟨e1,_⟩ | ⟨b,cap2,_,e1,_,_,e2,e3,_⟩⟩:=hown
  ·exact ⟨none,0,0,e1,Xs _,fun i hi=>absurd hi (D5 i)⟩
  ·exact ⟨_,_,_,e1,by omega,fun i hi=>⟨b,rfl⟩⟩
theorem q9k {Pr:Mm→Value→List Ent→List Ent→Prop} {f:FuncId} {args:List Operand} {ats:Array TypeId} {vs:List Value} {L R:List Ent} {rv:Mm→Value→List Ent→Prop} (hcb:CB P f) (ha:args.map (evT T)=vs) (hSt:St w0 X M (L++R) w) (hR:∀ e∈R,¬ Rw e)
 (hc:St w (qac L) M L w→Calls P f vs.toArray w (qa8 M w L rv)) (hrv:∀ M' u L',rv M' u L'→∃ L1 J,L'=L1++J∧(∀ e∈J,Rw e)∧(∀ e∈L1,¬ Rw e)∧L1.map Ent.blk=L.map Ent.blk∧Pr M' u L1 J)
 (hk:∀ M' u L1 J J2 w',Pr M' u L1 J→Thw J J2→St w0 X M ((L1++R)++J2) w'→K (qkb T dst u) w'):OW P n Q ⟨dst,.call ⟨.value (.func f),args.toArray,ats⟩,ty,pos,af,g⟩ T w K:=by
 obtain ⟨fn,c,hf,hname,hb⟩:=hcb;exact ql9 hf hname hb ha (hc hSt.lent) fun en w' ⟨u,M',L',he,hx,hs,hr⟩=>by
  obtain ⟨L1,J,rfl,hJ,hL1,hbl,hpr⟩:=hrv _ _ _ hr;obtain ⟨h1,h2⟩:=hSt.lend hs hx;have hp:((L1++J)++R).Perm ((L1++R)++J):=by
   rw [X8,X8];exact (List.perm_append_comm).append_left L1
  have hnone:∀ e∈J,∀ g,e.blk=some g→M g=none:=fun e he g hg=>by
   have hap:=As.1 hs.apart;rcases hs.mine e (Ak _ he) g hg with ⟨f,hf,hfb⟩ | hge
   ·have:f.blk∈L1.map Ent.blk:=by rw [hbl];exact List.mem_map_of_mem hf
    obtain ⟨f',hf',hb'⟩:=Be.1 this;exact absurd hg (hap.2.2 f' hf' e he g (hb'.trans hfb))
   ·cases hm:M g with
    | none=>rfl
    | some p=>have:=hSt.agree.lt hm;omega
  obtain ⟨J2,ht,h4⟩:=(h1.perm hp).thaw hx.1 hJ hnone fun e he=>by
   rcases Xr.1 he with he | he
   ·exact hL1 e he
   ·exact hR e he
  exact ⟨u,he,hk M' u L1 J J2 w' hpr ht h4⟩
end
theorem qhs {b:Nat} {cs:List Value} {t:TypeId}:¬ Rw (.box b cs t):=fun ⟨_,_,_,h⟩=>by cases h
theorem ql7 {v:Value} {t:TypeId} {k:Nat} {xs:List Value}:¬ Rw (.stk v t k xs):=fun ⟨_,_,_,h⟩=>by cases h
theorem ql8:∀ e∈([]:List Ent),¬ Rw e:=fun e h=>by cases h
theorem qcl {a:Ent} {H:List Ent} (ha:¬ Rw a) (hH:∀ e∈H,¬ Rw e):∀ e∈a::H,¬ Rw e:=fun e he=>by
 rcases Xm.1 he with rfl | he
 ·exact ha
 ·exact hH e he
theorem w64 {y n:Nat} (h:y<n) (hn:n≤maxLen):Value.int .i64 (IntKind.wrap .i64 ((y:Int)+1))= .int .i64 ((y+1:Nat):Int):=by
 have hw:IntKind.wrap .i64 ((y:Int)+1)=((y+1:Nat):Int):=by
  unfold maxLen at hn;rw [qc6 Ec Ec];omega
 rw [hw]
theorem q77 {y n:Nat} (h:y<n) (hn:n≤1000):Value.int .i64 (IntKind.wrap .i64 ((y:Int)+1))= .int .i64 ((y+1:Nat):Int):=w64 h (by unfold maxLen;omega)
theorem GOp.len3:(Zr.zc GOp).length=3:=rfl
theorem GOp.one:∀ u∈Zr.zc GOp,u.oneCell'=true:=D9 (Zr.zr:rep (fun _=>none) (Zr.zc GOp) (Zr.zd:GOp))
set_option maxRecDepth 100000 in
set_option maxHeartbeats 8000000 in
theorem qyb {M:Mm} {w:World} {bx:Nat} {cx:List Value} {ux:Value} {xux:List Value} {vr:Value} {xr:List Value} {px bo:Nat} {co:List Value} {uo:Value} {xuo:List Value} {ca:List Value} {c o o':GCluster} {net neto neto':List ByteArray} {a:GAct} {code n:Int} {l:List Int} {rp:GReply} {fu:Nat} {r:Bool × GCluster × (List ByteArray) × GCluster × (List ByteArray)}
 (hS:St w (qac [.box bx cx 90,.stk ux 9 1 xux,.stk vr 3 1 xr,.box px [.pointer (some ⟨bo,0,none⟩)] 23,.box bo co 90,.stk uo 9 1 xuo]) M [.box bx cx 90,.stk ux 9 1 xux,.stk vr 3 1 xr,.box px [.pointer (some ⟨bo,0,none⟩)] 23,.box bo co 90,.stk uo 9 1 xuo] w)
 (hcx:rep M cx c) (hkx:skr M ux xux net) (hpx:sl cx 1993 1=[ux]) (hca:rep M ca a) (hkr:skr M vr xr l) (hco:rep M co o) (hko:skr M uo xuo neto) (hpo:sl co 1993 1=[uo])
 (hdo:qpj fu o neto a=some (rp,o',neto')) (hsr:qc3 fu rp ⟨code,n,l⟩=some true)
 (hnode:∀ i:Int,0≤i→i<6→∃ r,qfx fu c i=some r) (hcase:∀ i:Int,0≤i→i<32→∃ r,qgc fu c i=some r) (hnet:∃ r2,qio fu c net=some (r2,net))
 (hsame:qle fu c net o' neto'=some r) :
 Calls Try.prog 42 #[.pointer (some ⟨bx,0,none⟩),.agg ca.toArray,.agg ([.int .i64 code,.int .i64 n,vr]:List Value).toArray,.pointer (some ⟨px,0,none⟩)] w (qa8 M w [.box bx cx 90,.stk ux 9 1 xux,.stk vr 3 1 xr,.box px [.pointer (some ⟨bo,0,none⟩)] 23,.box bo co 90,.stk uo 9 1 xuo] (fun M' u L'=>∃ k0 u1 x1 k2 u3 x3,u= .bool r.1∧L'=[.box bx k0 90,.stk u1 9 1 x1,.box px [.pointer (some ⟨bo,0,none⟩)] 23,.box bo k2 90,.stk u3 9 1 x3]∧rep M' k0 r.2.1∧skr M' u1 x1 r.2.2.1∧sl k0 1993 1=[u1]∧rep M' k2 r.2.2.2.1∧skr M' u3 x3 r.2.2.2.2∧sl k2 1993 1=[u3])):=by
 refine qlv Try.func42 109 fun T hT=>?_;have hT_0:T 0= .pointer (some ⟨bx,0,none⟩):=hT 0;have hT_1:T 1= .agg ca.toArray:=hT 1;have hT_2:T 2= .agg ([.int .i64 code,.int .i64 n,vr]:List Value).toArray:=hT 2;have hT_3:T 3= .pointer (some ⟨px,0,none⟩):=hT 3;clear hT;obtain ⟨X0,hX0⟩:∃ X0,X0=qac [.box bx cx 90,.stk ux 9 1 xux,.stk vr 3 1 xr,.box px [.pointer (some ⟨bo,0,none⟩)] 23,.box bo co 90,.stk uo 9 1 xuo]:=⟨_,rfl⟩;rw [← hX0] at hS;refine qan ?_;refine qat ?_;refine qgk (q3r (v:= .agg ca.toArray) (cs:=ca) hT_1 rfl hS ?_);intro b5 wA hb5 hS;refine qgk (q3r (v:= .agg ([.int .i64 code,.int .i64 n,vr]:List Value).toArray) (cs:=[.int .i64 code,.int .i64 n,vr]) hT_2 rfl hS ?_);intro b6 w2 hb6 hS;refine qam (qas (.bool false) rfl) ?_;refine qaj (qab ?_);refine qan ?_;refine qan ?_;refine q73 [.box b6 [.int .i64 code,.int .i64 n,vr] 40,.box b5 ca 43,.box px [.pointer (some ⟨bo,0,none⟩)] 23] [] mixed hS fun w3 hS hG hR=>?_;refine wld 0 rfl (qjr (.pointer (some ⟨bo,0,none⟩)) ts23 hT_3 (bvR 2 rfl) rfl) hR ?_;refine wld 1 rfl (qpd q30 rfl (bvR 1 rfl) (Xg (rr hca))) hR ?_;refine wld 3 rfl (qpd q8s rfl (bvR 0 rfl) rfl) hR ?_;refine w1 2 rfl (qjx (vs:=[.pointer (some ⟨bo,0,none⟩),.agg (sl ca 0 4).toArray]) (L:=[.box bo co 90,.stk uo 9 1 xuo]) (R:=[.box b6 [.int .i64 code,.int .i64 n,vr] 40,.box b5 ca 43,.box bx cx 90,.stk ux 9 1 xux,.stk vr 3 1 xr,.box px [.pointer (some ⟨bo,0,none⟩)] 23]) (rv:=(fun M' u L'=>∃ c0 k0 u1 x1,u= .agg c0.toArray∧L'=[.box bo k0 90,.stk u1 9 1 x1]∧rep M' c0 rp∧rep M' k0 o'∧skr M' u1 x1 neto'∧sl k0 1993 1=[u1])) q7s (qr6 rfl rfl) hS (hS.sel [6,7,0,1,2,3,4,5] Ed rfl) (fun hS=>qu0 hS hco hko hpo (rr hca) hdo) ?_);rintro u4 M4 w4 L4 hx4 ⟨c4,k4,uo4,xo4,rfl,hL4,f0,f1,f2,f3⟩ hS;replace hS:=hS _ hL4;refine rdn hS (hG.trans hx4) fun hR=>?_;obtain ⟨M5,hA5,hle5,hv5⟩:=q06 hS.agree (hS.ents (.stk vr 3 1 xr) (by simp)) (skr.mono hx4.1 hkr);have hrp:rep M5 (sl [.int .i64 code,.int .i64 n,vr] 0 3) (⟨code,n,l⟩:GReply):=⟨rfl,(ri code:rep M5 _ _),(ri n:rep M5 _ _),qm4 hv5⟩;refine w1 4 rfl (q3w (vs:=[.agg c4.toArray,.agg (sl [.int .i64 code,.int .i64 n,vr] 0 3).toArray]) (v:= .bool true) cb35 (qr6 rfl rfl) hS (qob hA5 (Ag hle5 f0) hrp hsr) ?_);intro w5 hS;refine rdn hS (hG.trans hx4) fun hR=>?_;refine wyv 5 rfl (q1e rfl) hR ?_;refine wd (qab ?_);refine qks rfl ?_;refine qfa (qab ?_);have hcx4:rep M4 cx c:=Ag hx4.1 hcx;have hkx4:skr M4 ux xux net:=skr.mono hx4.1 hkx;refine qan ?_;refine qat ?_;refine qam (qq0 qy4 rfl) ?_;refine qam (qjr vr q1q rfl (hS.bvB 2 rfl) rfl) ?_;replace hS:St w X0 M4 ([.box bx cx 90,.stk ux 9 1 xux,.box px [.pointer (some ⟨bo,0,none⟩)] 23,.box bo k4 90,.stk uo4 9 1 xo4]++[.stk vr 3 1 xr]) w5:=hS.sel (H':=[.box bx cx 90,.stk ux 9 1 xux,.box px [.pointer (some ⟨bo,0,none⟩)] 23,.box bo k4 90,.stk uo4 9 1 xo4,.stk vr 3 1 xr]) [4,5,7,0,1,6] Ed rfl;refine qgk (qkr (v:=vr) (qm2 rfl) hS (by simp [qge]) ?_);intro J1 w6 _ hS;replace hS:=hS.no_tail;refine qaj (qab ?_);refine qan ?_;refine qan ?_;refine qat ?_;refine qam (qai (.int .i64 ((0:Nat):Int)) rfl) ?_;refine qaj (qab ?_);refine qcf ?_;refine qju (fun k T' w'=>∃ y:Nat,St w X0 M4 [.box bx cx 90,.stk ux 9 1 xux,.box px [.pointer (some ⟨bo,0,none⟩)] 23,.box bo k4 90,.stk uo4 9 1 xo4] w'∧y≤6∧y+k=7∧T' 0= .pointer (some ⟨bx,0,none⟩)∧T' 3= .pointer (some ⟨px,0,none⟩)∧T' 28= .int .i64 (y:Int)) 7 ?_ ?_ ?_
 ·exact ⟨0,hS,by omega,by omega,hT_0,hT_3,rfl⟩
 ·rintro T' w' ⟨y,_,h1,h2,_⟩;omega
 rintro k1 T1 w7 ⟨y,hS,hy1,hy2,hT1_0,hT1_3,hT1_28⟩;refine qan ?_;refine qat ?_;refine qam (qm0 hT1_28 rfl) ?_;refine qaj (qab ?_);refine qan ?_;refine qe9 rfl (fun hc=>?_) (fun hc=>?_)
 ·have hy:y<6:=by have:=of_decide_eq_true hc;omega
  refine qfa (qab ?_);refine qan ?_;refine qcf ?_;refine qan ?_;refine qat ?_;refine qam (qai (.int .i64 (y:Int)) hT1_28) ?_;refine qam (qas (.int .i64 (y:Int)) rfl) ?_;refine qaj (qab ?_);refine qan ?_;refine qat ?_;refine qam (qai (.pointer (some ⟨bx,0,none⟩)) hT1_0) ?_;refine qam (qai (.int .i64 (y:Int)) rfl) ?_;obtain ⟨rn,hrn⟩:=hnode (y:Int) Ec Ec;refine qgk (q9k (vs:=[.pointer (some ⟨bx,0,none⟩),.int .i64 (y:Int)]) (L:=[.box bx cx 90]) (R:=[.stk ux 9 1 xux,.box px [.pointer (some ⟨bo,0,none⟩)] 23,.box bo k4 90,.stk uo4 9 1 xo4]) (Pr:=fun M' u L1 J=>L1=[.box bx cx 90]∧∃ c0,u= .tuple #[.agg c0.toArray,.bool rn.2]∧rep M' c0 rn.1∧NJ J c0 32) q7r (qr6 rfl rfl) hS (qcl ql7 (qcl qhs (qcl qhs (qcl ql7 ql8)))) (fun hS=>qx9 Ec Ec hS hcx4 hrn) ?_ ?_)
  ·rintro M' u L' ⟨c0,J,hu,hL,h1,h2,h3⟩;exact ⟨[.box bx cx 90],J,hL,h2,qcl qhs ql8,rfl,rfl,c0,hu,h1,h3⟩
  rintro M6 u6 L6 J6 J7 w8 ⟨rfl,c6,rfl,f6,⟨vo,evo,hvo⟩,hE⟩ ht hS;refine qam (qai (.tuple #[.agg c6.toArray,.bool rn.2]) rfl) ?_;refine qam (qh4 (v:= .agg c6.toArray) rfl rfl) ?_;refine qam (qh4 (v:= .bool rn.2) rfl rfl) ?_;refine qgk (qh7 q6b hS ?_);intro b9 w9 hb9 hS;have l6:c6.length=201:=Xg f6;refine qgk (qxh (ws:=c6) 0 hS rfl rfl rfl rfl l6.symm (D9 f6) ?_ (by rw [l6];kernel_rfl));intro w10 hS;replace hS:St w X0 M4 ([.box b9 c6 34,.box bx cx 90,.stk ux 9 1 xux,.box px [.pointer (some ⟨bo,0,none⟩)] 23,.box bo k4 90,.stk uo4 9 1 xo4]++J7) w10:=hS;refine qam (qas (.bool rn.2) rfl) ?_;refine qaj (qab ?_);refine qan ?_;refine qat ?_;refine qam (qq0 qv1 rfl) ?_;refine qam (qjr vo q1q rfl (hS.bvB 0 rfl) evo) ?_;refine qgk (qkr (v:=vo) (qm2 rfl) hS (ht.key hvo) ?_);intro J8 w11 hq8 hS;refine qaj (qab ?_);refine qan ?_;refine qat ?_;refine qam (qai (.int .i64 ((0:Nat):Int)) rfl) ?_;refine qaj (qab ?_);refine qcf ?_;refine qju (fun k T' w'=>∃ (i:Nat) (J:List Ent),St w X0 M4 ([.box b9 c6 34,.box bx cx 90,.stk ux 9 1 xux,.box px [.pointer (some ⟨bo,0,none⟩)] 23,.box bo k4 90,.stk uo4 9 1 xo4]++J) w'∧J.map qge=J7.map qge∧i≤32∧i+k=33∧T' 0= .pointer (some ⟨bx,0,none⟩)∧T' 3= .pointer (some ⟨px,0,none⟩)∧T' 28= .int .i64 (y:Int)∧T' 9= .pointer (some ⟨b9,0,none⟩)∧T' 40= .int .i64 (i:Int)) 33 ?_ ?_ ?_
  ·exact ⟨0,J8,hS,hq8,by omega,by omega,hT1_0,hT1_3,hT1_28,rfl,rfl⟩
  ·rintro T' w' ⟨i,_,_,_,h1,h2,_⟩;omega
  rintro k2 T2 w12 ⟨i,J9,hS,hq9,hi1,hi2,hT2_0,hT2_3,hT2_28,hT2_9,hT2_40⟩;refine qan ?_;refine qat ?_;refine qam (qm0 hT2_40 rfl) ?_;refine qaj (qab ?_);refine qan ?_;refine qe9 rfl (fun hc=>?_) (fun hc=>?_)
  ·have hi:i<32:=by have:=of_decide_eq_true hc;omega
   refine qfa (qab ?_);refine qan ?_;refine qcf ?_;refine qan ?_;refine qat ?_;refine qam (qai (.int .i64 (i:Int)) hT2_40) ?_;refine qam (qas (.int .i64 (i:Int)) rfl) ?_;refine qaj (qab ?_);refine qan ?_;refine qat ?_;refine qam (qai (.int .i64 (i:Int)) rfl) ?_;refine qam (qq0 qv0 hT2_9) ?_;refine qam (qwv qvz rfl rfl Ec Ec) ?_;have hlc:(sl c6 (0+0+Int.toNat (i:Int)*6) 6).length=6:=by
    have:Int.toNat (i:Int)=i:=rfl;rw [this,sl,A9,Ba,l6];omega
   refine qam (qpd q1a rfl (hS.bvB 0 rfl) hlc) ?_;obtain ⟨v1,v2,v3,v4,v5,⟨e1,q1⟩,⟨e2,q2⟩,⟨e3,q3⟩,⟨e4,q4⟩,e5,q5⟩:=hE i hi;obtain ⟨ce,hce⟩:∃ ce,ce=sl c6 (0+0+Int.toNat (i:Int)*6) 6:=⟨_,rfl⟩;have hce':sl c6 (i*6) 6=ce:=by
    rw [hce];show _=sl c6 (0+0+i*6) 6;rw [Ax]
   rw [hce'] at e1 e2 e3 e4 e5;rw [← hce] at hlc;have hoc:∀ u∈ce,u.oneCell'=true:=by rw [hce];exact qya (D9 f6)
   refine qgk (qh7 qyc hS ?_);intro b12 w13 hb12 hS;refine qgk (qxh (ws:=ce) 0 hS rfl rfl rfl hce.symm hlc.symm hoc ?_ (by rw [hlc];kernel_rfl));intro w14 hS;replace hS:St w X0 M4 ([.box b12 ce 30,.box b9 c6 34,.box bx cx 90,.stk ux 9 1 xux,.box px [.pointer (some ⟨bo,0,none⟩)] 23,.box bo k4 90,.stk uo4 9 1 xo4]++J9) w14:=hS;refine qaj (qab ?_);refine qan ?_;refine qat ?_;refine qam (qq0 q2y rfl) ?_;refine qam (qjr v2 q1q rfl (hS.bvB 0 rfl) e2) ?_;refine qgk (qkr (v:=v2) (qm2 rfl) hS (hq9 ▸ ht.key q2) ?_);intro J10 w15 hq10 hS;replace hq10:=hq10.trans hq9;refine qaj (qab ?_);refine qan ?_;refine qat ?_;refine qam (qq0 q2z rfl) ?_;refine qam (qjr v3 q1q rfl (hS.bvB 0 rfl) e3) ?_;refine qgk (qkr (v:=v3) (qm2 rfl) hS (hq10 ▸ ht.key q3) ?_);intro J11 w16 hq11 hS;replace hq11:=hq11.trans hq10;refine qaj (qab ?_);refine qan ?_;refine qat ?_;refine qam (qq0 q20 rfl) ?_;refine qam (qjr v4 q1q rfl (hS.bvB 0 rfl) e4) ?_;refine qgk (qkr (v:=v4) (qm2 rfl) hS (hq11 ▸ ht.key q4) ?_);intro J12 w17 hq12 hS;replace hq12:=hq12.trans hq11;refine qaj (qab ?_);refine qan ?_;refine qat ?_;refine qam (qq0 q21 rfl) ?_;refine qam (qjr v5 q1q rfl (hS.bvB 0 rfl) e5) ?_;refine qgk (qkr (v:=v5) (qm2 rfl) hS (hq12 ▸ ht.key q5) ?_);intro J13 w18 hq13 hS;replace hq13:=hq13.trans hq12;refine qaj (qab ?_);have hk1:some (v1,65,3)∈J7.map qge:=ht.key q1;obtain ⟨a1,nn,cap,hv1,hnn,hbl⟩:=hS.tail_shape2 (hq13 ▸ hk1);refine qan ?_;refine qat ?_;refine qam (qq0 qy3 rfl) ?_;refine qam (qjr v1 q59 rfl (hS.bvB 0 rfl) e1) ?_;refine qam (qnl Try.underlying27 (tr2 hv1 rfl)) ?_;refine qam (qai (.int .i64 ((0:Nat):Int)) rfl) ?_;refine qaj (qab ?_);refine qcf ?_;refine qju (fun k T' w'=>∃ (z:Nat) (J:List Ent),St w X0 M4 ([.box b12 ce 30,.box b9 c6 34,.box bx cx 90,.stk ux 9 1 xux,.box px [.pointer (some ⟨bo,0,none⟩)] 23,.box bo k4 90,.stk uo4 9 1 xo4]++J) w'∧J.map qge=J7.map qge∧z≤nn∧z+k=nn+1∧T' 0= .pointer (some ⟨bx,0,none⟩)∧T' 3= .pointer (some ⟨px,0,none⟩)∧T' 28= .int .i64 (y:Int)∧T' 9= .pointer (some ⟨b9,0,none⟩)∧T' 40= .int .i64 (i:Int)∧T' 12= .pointer (some ⟨b12,0,none⟩)∧T' 61= .int .i64 (nn:Int)∧T' 62= .int .i64 (z:Int)) (nn+1) ?_ ?_ ?_
   ·exact ⟨0,J13,hS,hq13,by omega,by omega,hT2_0,hT2_3,hT2_28,hT2_9,hT2_40,rfl,rfl,rfl⟩
   ·rintro T' w' ⟨z,_,_,_,h1,h2,_⟩;omega
   rintro k3 T3 w19 ⟨z,J14,hS,hq14,hz1,hz2,hT3_0,hT3_3,hT3_28,hT3_9,hT3_40,hT3_12,hT3_61,hT3_62⟩;refine qan ?_;refine qat ?_;refine qam (qm0 hT3_62 hT3_61) ?_;refine qaj (qab ?_);refine qan ?_;refine qe9 rfl (fun hc=>?_) (fun hc=>?_)
   ·have hz:z<nn:=by have:=of_decide_eq_true hc;omega
    obtain ⟨bb,hbb⟩:=hbl z hz;have hv1':v1= .slice (some ⟨bb,0,none⟩) nn cap:=by rw [hv1,hbb]
    refine qfa (qab ?_);refine qan ?_;refine qcf ?_;refine qan ?_;refine qat ?_;refine qam (qai (.int .i64 (z:Int)) hT3_62) ?_;refine qam (qas (.int .i64 (z:Int)) rfl) ?_;refine qaj (qab ?_);refine qat ?_;refine qam (qq0 qy3 hT3_12) ?_;refine qam (qjr v1 q59 rfl (hS.bvB 0 rfl) e1) ?_;refine qam (qai (.int .i64 (z:Int)) rfl) ?_;refine qam (qt5 (ds:=Zr.zc GOp) [] q7q bp0 rfl) ?_;refine qam (qt1 q09 rfl hv1' rfl Ec Ec) ?_;refine qgk (q4p (i:=(z:Int)) (k:=3) (ws:=Zr.zc GOp) hS (hq14 ▸ hk1) hv1' rfl Ec Ec rfl rfl GOp.len3 GOp.one Ee ?_);intro J15 w20 hq15 hS;refine qaj (qjw ?_);refine (qab ?_);refine qat ?_;refine qam (qpc hT3_62 rfl) ?_;refine qam (qai (.int .i64 (IntKind.wrap .i64 ((z:Int)+1))) rfl) ?_;refine qaj (qab ?_);exact ⟨z+1,J15,hS,hq15.trans hq14,hz,by omega,hT3_0,hT3_3,hT3_28,hT3_9,hT3_40,hT3_12,hT3_61,w64 hz hnn⟩
   ·refine qh1 ?_;refine qb4 ?_;refine qb4 ?_;refine qh9 ?_;refine (qjw ?_);refine (qab ?_);refine qat ?_;refine qam (qpc hT3_40 rfl) ?_;refine qam (qai (.int .i64 (IntKind.wrap .i64 ((i:Int)+1))) rfl) ?_;refine qaj (qab ?_);exact ⟨i+1,J14,hS.drop,hq14,hi,by omega,hT3_0,hT3_3,hT3_28,hT3_9,q77 hi Ed⟩
  ·refine qh1 ?_;refine qb4 ?_;refine qb4 ?_;refine qh9 ?_;refine (qjw ?_);refine (qab ?_);refine qat ?_;refine qam (qpc hT2_28 rfl) ?_;refine qam (qai (.int .i64 (IntKind.wrap .i64 ((y:Int)+1))) rfl) ?_;refine qaj (qab ?_);exact ⟨y+1,hS.no_tail.drop,hy,by omega,hT2_0,hT2_3,q77 hy Ed⟩
 refine qh1 ?_;refine qb4 ?_;refine qb4 ?_;refine qh9 ?_;refine (qab ?_);refine qan ?_;refine qan ?_;refine qat ?_;refine qam (qai (.int .i64 ((0:Nat):Int)) rfl) ?_;refine qaj (qab ?_);refine qcf ?_;refine qju (fun k T' w'=>∃ y:Nat,St w X0 M4 [.box bx cx 90,.stk ux 9 1 xux,.box px [.pointer (some ⟨bo,0,none⟩)] 23,.box bo k4 90,.stk uo4 9 1 xo4] w'∧y≤32∧y+k=33∧T' 0= .pointer (some ⟨bx,0,none⟩)∧T' 3= .pointer (some ⟨px,0,none⟩)∧T' 73= .int .i64 (y:Int)) 33 ?_ ?_ ?_
 ·exact ⟨0,hS,by omega,by omega,hT1_0,hT1_3,rfl⟩
 ·rintro T' w' ⟨y,_,h1,h2,_⟩;omega
 rintro k4' T4 w21 ⟨x,hS,hx1,hx2,hT4_0,hT4_3,hT4_73⟩;refine qan ?_;refine qat ?_;refine qam (qm0 hT4_73 rfl) ?_;refine qaj (qab ?_);refine qan ?_;refine qe9 rfl (fun hc=>?_) (fun hc=>?_)
 ·have hx:x<32:=by have:=of_decide_eq_true hc;omega
  refine qfa (qab ?_);refine qan ?_;refine qcf ?_;refine qan ?_;refine qat ?_;refine qam (qai (.int .i64 (x:Int)) hT4_73) ?_;refine qam (qas (.int .i64 (x:Int)) rfl) ?_;refine qaj (qab ?_);refine qan ?_;refine qat ?_;refine qam (qai (.pointer (some ⟨bx,0,none⟩)) hT4_0) ?_;refine qam (qai (.int .i64 (x:Int)) rfl) ?_;obtain ⟨rc,hrc⟩:=hcase (x:Int) Ec Ec;refine qgk (q9k (vs:=[.pointer (some ⟨bx,0,none⟩),.int .i64 (x:Int)]) (L:=[.box bx cx 90]) (R:=[.stk ux 9 1 xux,.box px [.pointer (some ⟨bo,0,none⟩)] 23,.box bo k4 90,.stk uo4 9 1 xo4]) (Pr:=fun M' u L1 J=>L1=[.box bx cx 90]∧∃ c0 v1 v2,u= .agg c0.toArray∧rep M' c0 rc∧J=[.row v1 65 3,.row v2 3 1]∧sl c0 2 1=[v1]∧sl c0 15 1=[v2]) q84 (qr6 rfl rfl) hS (qcl ql7 (qcl qhs (qcl qhs (qcl ql7 ql8)))) (fun hS=>qxi hS hcx4 hrc) ?_ ?_)
  ·rintro M' u L' ⟨c0,v1,v2,hu,hL,h1,h2,h3⟩;refine ⟨[.box bx cx 90],[.row v1 65 3,.row v2 3 1],hL,fun e he=>?_,qcl qhs ql8,rfl,rfl,c0,v1,v2,hu,h1,rfl,h2,h3⟩;simp only [Xm,Bh,or_false] at he;rcases he with rfl | rfl<;>exact ⟨_,_,_,rfl⟩
  rintro M7 u7 L7 J6 J7 w22 ⟨rfl,c7,v1,v2,rfl,f7,hJ,e1,e2⟩ ht hS;have hk1:some (v1,65,3)∈J7.map qge:=ht.key (by rw [hJ];simp);have hk2:some (v2,3,1)∈J7.map qge:=ht.key (by rw [hJ];simp);refine qgk (qh7 q8w hS ?_);intro b15 w23 hb15 hS;have l7:c7.length=24:=Xg f7;refine qgk (qxh (ws:=c7) 0 hS rfl rfl rfl rfl l7.symm (D9 f7) ?_ (by rw [l7];kernel_rfl));intro w24 hS;replace hS:St w X0 M4 ([.box b15 c7 49,.box bx cx 90,.stk ux 9 1 xux,.box px [.pointer (some ⟨bo,0,none⟩)] 23,.box bo k4 90,.stk uo4 9 1 xo4]++J7) w24:=hS;refine qaj (qab ?_);refine qan ?_;refine qat ?_;refine qam (qq0 q24 rfl) ?_;refine qam (qjr v2 q1q rfl (hS.bvB 0 rfl) e2) ?_;refine qgk (qkr (v:=v2) (qm2 rfl) hS hk2 ?_);intro J8 w25 hq8 hS;refine qaj (qab ?_);obtain ⟨a1,nn,cap,hv1,hnn,hbl⟩:=hS.tail_shape2 (hq8 ▸ hk1);refine qan ?_;refine qat ?_;refine qam (qq0 qy5 rfl) ?_;refine qam (qjr v1 q59 rfl (hS.bvB 0 rfl) e1) ?_;refine qam (qnl Try.underlying27 (tr2 hv1 rfl)) ?_;refine qam (qai (.int .i64 ((0:Nat):Int)) rfl) ?_;refine qaj (qab ?_);refine qcf ?_;refine qju (fun k T' w'=>∃ (z:Nat) (J:List Ent),St w X0 M4 ([.box b15 c7 49,.box bx cx 90,.stk ux 9 1 xux,.box px [.pointer (some ⟨bo,0,none⟩)] 23,.box bo k4 90,.stk uo4 9 1 xo4]++J) w'∧J.map qge=J7.map qge∧z≤nn∧z+k=nn+1∧T' 0= .pointer (some ⟨bx,0,none⟩)∧T' 3= .pointer (some ⟨px,0,none⟩)∧T' 73= .int .i64 (x:Int)∧T' 15= .pointer (some ⟨b15,0,none⟩)∧T' 84= .int .i64 (nn:Int)∧T' 85= .int .i64 (z:Int)) (nn+1) ?_ ?_ ?_
  ·exact ⟨0,J8,hS,hq8,by omega,by omega,hT4_0,hT4_3,hT4_73,rfl,rfl,rfl⟩
  ·rintro T' w' ⟨z,_,_,_,h1,h2,_⟩;omega
  rintro k5 T5 w26 ⟨z,J14,hS,hq14,hz1,hz2,hT5_0,hT5_3,hT5_73,hT5_15,hT5_84,hT5_85⟩;refine qan ?_;refine qat ?_;refine qam (qm0 hT5_85 hT5_84) ?_;refine qaj (qab ?_);refine qan ?_;refine qe9 rfl (fun hc=>?_) (fun hc=>?_)
  ·have hz:z<nn:=by have:=of_decide_eq_true hc;omega
   obtain ⟨bb,hbb⟩:=hbl z hz;have hv1':v1= .slice (some ⟨bb,0,none⟩) nn cap:=by rw [hv1,hbb]
   refine qfa (qab ?_);refine qan ?_;refine qcf ?_;refine qan ?_;refine qat ?_;refine qam (qai (.int .i64 (z:Int)) hT5_85) ?_;refine qam (qas (.int .i64 (z:Int)) rfl) ?_;refine qaj (qab ?_);refine qat ?_;refine qam (qq0 qy5 hT5_15) ?_;refine qam (qjr v1 q59 rfl (hS.bvB 0 rfl) e1) ?_;refine qam (qai (.int .i64 (z:Int)) rfl) ?_;refine qam (qt5 (ds:=Zr.zc GOp) [] q7q bp0 rfl) ?_;refine qam (qt1 q09 rfl hv1' rfl Ec Ec) ?_;refine qgk (q4p (i:=(z:Int)) (k:=3) (ws:=Zr.zc GOp) hS (hq14 ▸ hk1) hv1' rfl Ec Ec rfl rfl GOp.len3 GOp.one Ee ?_);intro J15 w27 hq15 hS;refine qaj (qjw ?_);refine (qab ?_);refine qat ?_;refine qam (qpc hT5_85 rfl) ?_;refine qam (qai (.int .i64 (IntKind.wrap .i64 ((z:Int)+1))) rfl) ?_;refine qaj (qab ?_);exact ⟨z+1,J15,hS,hq15.trans hq14,hz,by omega,hT5_0,hT5_3,hT5_73,hT5_15,hT5_84,w64 hz hnn⟩
  ·refine qh1 ?_;refine qb4 ?_;refine qb4 ?_;refine qh9 ?_;refine (qjw ?_);refine (qab ?_);refine qat ?_;refine qam (qpc hT5_73 rfl) ?_;refine qam (qai (.int .i64 (IntKind.wrap .i64 ((x:Int)+1))) rfl) ?_;refine qaj (qab ?_);exact ⟨x+1,hS.no_tail.drop,hx,by omega,hT5_0,hT5_3,q77 hx Ed⟩
 refine qh1 ?_;refine qb4 ?_;refine qb4 ?_;refine qh9 ?_;refine (qab ?_);refine qan ?_;refine qat ?_;refine qam (qai (.pointer (some ⟨bx,0,none⟩)) hT4_0) ?_;obtain ⟨r2,hrt⟩:=hnet;refine qgk (q9k (vs:=[.pointer (some ⟨bx,0,none⟩)]) (L:=[.box bx cx 90,.stk ux 9 1 xux]) (R:=[.box px [.pointer (some ⟨bo,0,none⟩)] 23,.box bo k4 90,.stk uo4 9 1 xo4]) (Pr:=fun M' u L1 J=>∃ x1,L1=[.box bx cx 90,.stk ux 9 1 x1]∧J=[.row u 9 1]∧skr M4 ux x1 net) q7t (qm2 rfl) hS (qcl qhs (qcl qhs (qcl ql7 ql8))) (fun hS=>qz0 hS hcx4 hkx4 hpx hrt) ?_ ?_)
 ·rintro M' u L' ⟨v0,u1,x1,hu,hL,h1,h2,h3⟩;rw [hpx] at h3;cases h3;subst hu;refine ⟨[.box bx cx 90,.stk ux 9 1 x1],[.row u 9 1],hL,fun e he=>?_,qcl qhs (qcl ql7 ql8),rfl,x1,rfl,rfl,q5a h2⟩;simp only [Xm,Bh,or_false] at he;exact ⟨_,_,_,he⟩
 rintro M8 vn L8 J6 J7 w28 ⟨x1,rfl,hJ,hk8⟩ ht hS;have hkn:some (vn,9,1)∈J7.map qge:=ht.key (by rw [hJ];simp);obtain ⟨a1,nn,cap,hvn,hnn,hbl⟩:=hS.tail_shape2 hkn;refine qam (qas vn rfl) ?_;refine qaj (qab ?_);refine qan ?_;refine qan ?_;refine qat ?_;refine qam (qai vn rfl) ?_;refine qam (qnl Try.underlying72 (tr2 hvn rfl)) ?_;refine qam (qai (.int .i64 ((0:Nat):Int)) rfl) ?_;refine qaj (qab ?_);refine qcf ?_;refine qju (fun k T' w'=>∃ (z:Nat) (J:List Ent),St w X0 M4 ([.box bx cx 90,.stk ux 9 1 x1,.box px [.pointer (some ⟨bo,0,none⟩)] 23,.box bo k4 90,.stk uo4 9 1 xo4]++J) w'∧J.map qge=J7.map qge∧z≤nn∧z+k=nn+1∧T' 0= .pointer (some ⟨bx,0,none⟩)∧T' 3= .pointer (some ⟨px,0,none⟩)∧T' 17=vn∧T' 98= .int .i64 (nn:Int)∧T' 99= .int .i64 (z:Int)) (nn+1) ?_ ?_ ?_
 ·exact ⟨0,J7,hS,rfl,by omega,by omega,hT4_0,hT4_3,rfl,rfl,rfl⟩
 ·rintro T' w' ⟨z,_,_,_,h1,h2,_⟩;omega
 rintro k6 T6 w29 ⟨z,J14,hS,hq14,hz1,hz2,hT6_0,hT6_3,hT6_17,hT6_98,hT6_99⟩;refine qan ?_;refine qat ?_;refine qam (qm0 hT6_99 hT6_98) ?_;refine qaj (qab ?_);refine qan ?_;refine qe9 rfl (fun hc=>?_) (fun hc=>?_)
 ·have hz:z<nn:=by have:=of_decide_eq_true hc;omega
  obtain ⟨bb,hbb⟩:=hbl z hz;have hvn':vn= .slice (some ⟨bb,0,none⟩) nn cap:=by rw [hvn,hbb]
  refine qfa (qab ?_);refine qan ?_;refine qcf ?_;refine qan ?_;refine qat ?_;refine qam (qai (.int .i64 (z:Int)) hT6_99) ?_;refine qam (qas (.int .i64 (z:Int)) rfl) ?_;refine qaj (qab ?_);refine qat ?_;refine qam (qai vn hT6_17) ?_;refine qam (qai (.int .i64 (z:Int)) rfl) ?_;refine qam (qt1 q5h rfl hvn' rfl Ec Ec) ?_;refine qgk (q4p (i:=(z:Int)) (k:=1) (u:= .string (⟨#[115,112,111,105,108,116]⟩:ByteArray)) (ws:=[.string (⟨#[115,112,111,105,108,116]⟩:ByteArray)]) hS (hq14 ▸ hkn) hvn' rfl Ec Ec rfl rfl rfl (by simp [Value.oneCell']) Ee ?_);intro J15 w30 hq15 hS;refine qaj (qjw ?_);refine (qab ?_);refine qat ?_;refine qam (qpc hT6_99 rfl) ?_;refine qam (qai (.int .i64 (IntKind.wrap .i64 ((z:Int)+1))) rfl) ?_;refine qaj (qab ?_);exact ⟨z+1,J15,hS,hq15.trans hq14,hz,by omega,hT6_0,hT6_3,hT6_17,hT6_98,w64 hz hnn⟩
 refine qh1 ?_;refine qb4 ?_;refine qb4 ?_;refine qh9 ?_;refine (qab ?_);replace hS:=hS.no_tail;refine qan ?_;refine qat ?_;refine qam (qai (.pointer (some ⟨bx,0,none⟩)) hT6_0) ?_;refine qam (qjr (.pointer (some ⟨bo,0,none⟩)) ts23 hT6_3 (hS.bvB 2 rfl) rfl) ?_;refine qgk (qjx (vs:=[.pointer (some ⟨bx,0,none⟩),.pointer (some ⟨bo,0,none⟩)]) (L:=[.box bx cx 90,.stk ux 9 1 x1,.box bo k4 90,.stk uo4 9 1 xo4]) (R:=[.box px [.pointer (some ⟨bo,0,none⟩)] 23]) (rv:=(fun M' u L'=>∃ k0 u1 x1 k2 u3 x3,u= .bool r.1∧L'=[.box bx k0 90,.stk u1 9 1 x1,.box bo k2 90,.stk u3 9 1 x3]∧rep M' k0 r.2.1∧skr M' u1 x1 r.2.2.1∧sl k0 1993 1=[u1]∧rep M' k2 r.2.2.2.1∧skr M' u3 x3 r.2.2.2.2∧sl k2 1993 1=[u3])) cb40 (qr6 rfl rfl) hS (hS.sel [0,1,3,4,2] Ed rfl) (fun hS=>qu1 hS hcx4 hk8 hpx f1 f2 f3 hsame) ?_);rintro u9 M9 w31 L9 hx9 ⟨k0,u1,x9,k2,u3,x3,rfl,hL9,g0,g1,g2,g3,g4,g5⟩ hS;replace hS:=hS _ hL9;refine qam (qas (.bool r.1) rfl) ?_;refine qaj (qab ?_);subst hX0;exact qws (q8g rfl rfl ⟨_,M9,_,rfl,(hx4.trans hx9),(hS.sel (H':=[.box bx k0 90,.stk u1 9 1 x9,.box px [.pointer (some ⟨bo,0,none⟩)] 23,.box bo k2 90,.stk u3 9 1 x3]) [0,1,4,2,3] Ed rfl),k0,u1,x9,k2,u3,x3,rfl,rfl,g0,g1,g2,g3,g4,g5⟩)
structure Plays (fu:Nat) (Inv:GCluster→List ByteArray→Prop) (r0:GCluster × List ByteArray):Prop where
 alive:qv8 fu=some true
 new:qs2 fu=some r0
 start:Inv r0.1 r0.2
 step:∀ c net a,Inv c net→∃ rp c' net',qpj fu c net a=some (rp,c',net')∧Inv c' net'∧qc3 fu rp rp=some true
 node:∀ c net,Inv c net→∀ i:Int,0≤i→i<6→∃ r,qfx fu c i=some r
 case:∀ c net,Inv c net→∀ i:Int,0≤i→i<32→∃ r,qgc fu c i=some r
 net:∀ c net,Inv c net→∃ r2,qio fu c net=some (r2,net)
 same:∀ c net,Inv c net→qle fu c net c net=some (true,c,net,c,net)
set_option maxRecDepth 100000 in
set_option maxHeartbeats 8000000 in
theorem q2r {M:Mm} {w:World} {vx1:Value} {px bo:Nat} {co:List Value} {uo:Value} {xuo:List Value} {x1:List GAct} {fu:Nat} {Inv:GCluster→List ByteArray→Prop} {r0:GCluster × List ByteArray} (hP:Plays fu Inv r0)
 (hS:St w (qac [.box px [.pointer (some ⟨bo,0,none⟩)] 23,.box bo co 90,.stk uo 9 1 xuo]) M [.box px [.pointer (some ⟨bo,0,none⟩)] 23,.box bo co 90,.stk uo 9 1 xuo] w) (hvx1:repL M vx1 x1) (hco:rep M co r0.1) (hko:skr M uo xuo r0.2) (hpo:sl co 1993 1=[uo]) :
 Calls Try.prog 15 #[vx1,.func (.func 42) #[] #[.pointer (some ⟨px,0,none⟩)]] w (qa8 M w [.box px [.pointer (some ⟨bo,0,none⟩)] 23,.box bo co 90,.stk uo 9 1 xuo] (fun M' u L'=>∃ bP,u= .tuple #[.pointer (some ⟨bP,0,none⟩),.bool true]∧L'=[])):=by
 refine qlv Try.func15 39 fun T hT=>?_;have hT_0:T 0=vx1:=hT 0;have hT_1:T 1= .func (.func 42) #[] #[.pointer (some ⟨px,0,none⟩)]:=hT 1;clear hT;obtain ⟨X0,hX0⟩:∃ X0,X0=qac [.box px [.pointer (some ⟨bo,0,none⟩)] 23,.box bo co 90,.stk uo 9 1 xuo]:=⟨_,rfl⟩;rw [← hX0] at hS;refine qan ?_;refine qat ?_;refine qam (qas (.pointer none) rfl) ?_;refine qam (qas (.bool false) rfl) ?_;refine qaj (qab ?_);refine qan ?_;refine qan ?_;refine qat ?_;refine qgk (q3w (vs:=[]) (v:= .bool true) cb33 q1i hS (q17 hS.agree hP.alive) ?_);intro w5 hS;refine qam (q1e rfl) ?_;refine qaj (qab ?_);refine qks rfl ?_;refine qfa (qab ?_);refine qan ?_;refine qat ?_;refine qgk (qjx (vs:=[]) (L:=[]) (R:=[.box px [.pointer (some ⟨bo,0,none⟩)] 23,.box bo co 90,.stk uo 9 1 xuo]) (rv:=(fun M' u L'=>∃ bP0 kP0 uP6 xP6,u= .pointer (some ⟨bP0,0,none⟩)∧L'=[.box bP0 kP0 90,.stk uP6 9 1 xP6]∧rep M' kP0 r0.1∧skr M' uP6 xP6 r0.2∧sl kP0 1993 1=[uP6])) q85 q1i hS (hS.sel [0,1,2] Ed rfl) (fun hS=>qri hS.agree hP.new) ?_);rintro u10 M10 w9 L10 hx10 ⟨bP,kP,uP,xP,rfl,hL10,f0,f1,f2⟩ hS;replace hS:=hS _ hL10;replace hvx1:=repL.mono hx10.1 hvx1;replace hco:=Ag hx10.1 hco;replace hko:=skr.mono hx10.1 hko;refine qam (qas (.pointer (some ⟨bP,0,none⟩)) rfl) ?_;refine qaj (qab ?_);refine qan ?_;refine qan ?_;refine qat ?_;refine qam (qas (.int .i64 ((0:Nat):Int)) rfl) ?_;refine qaj (qab ?_);refine qcf ?_;refine qju (fun k T' w'=>∃ M1 cs u xs cs2 u2 xs2 c net,∃ y:Nat,Mm.ext w.heap.size X0 M10 M1∧St w X0 M1 [.box bP cs 90,.stk u 9 1 xs,.box px [.pointer (some ⟨bo,0,none⟩)] 23,.box bo cs2 90,.stk u2 9 1 xs2] w'∧rep M1 cs c∧skr M1 u xs net∧sl cs 1993 1=[u]∧rep M1 cs2 c∧skr M1 u2 xs2 net∧sl cs2 1993 1=[u2]∧Inv c net∧y≤150∧y+k=151∧T' 0=vx1∧T' 1= .func (.func 42) #[] #[.pointer (some ⟨px,0,none⟩)]∧T' 6= .pointer (some ⟨bP,0,none⟩)∧T' 7= .int .i64 (y:Int)) 151 ?_ ?_ ?_
 ·exact ⟨M10,kP,uP,xP,co,uo,xuo,r0.1,r0.2,0,Mm.ext.refl _ _ _,hS,f0,f1,f2,hco,hko,hpo,hP.start,by omega,by omega,hT_0,hT_1,rfl,rfl⟩
 ·rintro T' w' ⟨_,_,_,_,_,_,_,_,_,y,_,_,_,_,_,_,_,_,_,h1,h2,_⟩;omega
 rintro k1 T1 w11 ⟨M1,cs,u,xs,cs2,u2,xs2,c,net,y,hx1,hS,hb,hk,hp,hb2,hk2,hp2,hI,hy1,hy2,hT1_0,hT1_1,hT1_6,hT1_7⟩;replace hvx1:=repL.mono hx1.1 hvx1;refine qan ?_;refine qan ?_;refine qat ?_;refine qam (qai (.int .i64 (y:Int)) hT1_7) ?_;refine qam (qai (vx1) hT1_0) ?_;obtain ⟨a70,c70,hv70,_⟩:=qi9 hvx1;refine qam (qnl Try.underlying22 (tr2 hv70 rfl)) ?_;refine qam (qm0 rfl rfl) ?_;refine qam (qai (.bool (decide ((y:Int)<(x1.length:Int)))) rfl) ?_;rcases Bc (decide ((y:Int)<(x1.length:Int))) with hc71 | hc71
 ·have hlt:y<x1.length:=by have:=of_decide_eq_true hc71;omega
  refine qwt rfl (bt hc71 rfl) (qai (.int .i64 (y:Int)) hT1_7) ?_;refine qwt rfl (bt hc71 rfl) (qm0 rfl rfl) ?_;refine qam (qqz (.bool (decide ((y:Int)<150))) (bt hc71 rfl) rfl) ?_;refine qaj (qab ?_);refine qe9 rfl (fun hc=>?_) (fun hc=>?_)
  ·have hy:y<150:=by have:=of_decide_eq_true hc;omega
   refine qfa (qab ?_);refine qan ?_;refine qcf ?_;refine qan ?_;refine qat ?_;refine qam (qai (.pointer (some ⟨bP,0,none⟩)) hT1_6) ?_;refine qam (qai (vx1) hT1_0) ?_;refine qam (qai (.int .i64 (y:Int)) hT1_7) ?_;have hx38:idx x1 (y:Int)=some x1[y]:=by rw [qa5,Xl hlt]
   obtain ⟨b38,o38,c38,p38,hv38,hi38,hj38,hM38,hr38⟩:=qt2 hvx1 hx38;replace hr38:rep _ (sl p38 (o38+Int.toNat (y:Int)*4) 4) x1[y]:=hr38;refine qam (qt1 q8o rfl hv38 rfl hi38 hj38) ?_;refine qam (qpd q30 rfl (hS.bvM hM38) (Xg hr38)) ?_;obtain ⟨rp,c',net',hdo,hI',hrep⟩:=hP.step c net x1[y] hI;refine qgk (qjx (vs:=[.pointer (some ⟨bP,0,none⟩),.agg (sl p38 (o38+Int.toNat (y:Int)*4) 4).toArray]) (L:=[.box bP cs 90,.stk u 9 1 xs]) (R:=[.box px [.pointer (some ⟨bo,0,none⟩)] 23,.box bo cs2 90,.stk u2 9 1 xs2]) (rv:=(fun M' u L'=>∃ vP xP k0 u1 x1,u= .agg ([.int .i64 rp.code,.int .i64 rp.n,vP]:List Value).toArray∧L'=[.box bP k0 90,.stk u1 9 1 x1,.stk vP 3 1 xP]∧skr M' vP xP rp.values∧rep M' k0 c'∧skr M' u1 x1 net'∧sl k0 1993 1=[u1])) q7s (qr6 rfl rfl) hS (hS.sel [0,1,2,3,4] Ed rfl) (fun hS=>q19 hS hb hk hp hr38 hdo) ?_);rintro u42 M42 w41 L42 hx42 ⟨vR,xR,k0,u1,xx1,rfl,hL42,g0,g1,g2,g3⟩ hS;replace hS:=hS _ hL42;replace hb2:=Ag hx42.1 hb2;replace hk2:=skr.mono hx42.1 hk2;replace hM38:=hx42.1 _ _ hM38;replace hvx1:=repL.mono hx42.1 hvx1;refine qgk (qh7 q8t hS ?_);intro b45 w44 hb45 hS;refine qgk (qxh (ws:=[.int .i64 rp.code,.int .i64 rp.n,vR]) 0 hS rfl rfl rfl rfl rfl (q3d g0) ?_);intro w46 hS;refine qaj (qab ?_);refine qan ?_;refine q73 [.box b45 [.int .i64 rp.code,.int .i64 rp.n,vR] 40] [] mixed hS fun w49 hS hG50 hR51=>?_;refine wyv 0 rfl (qai (.func (.func 42) #[] #[.pointer (some ⟨px,0,none⟩)]) hT1_1) hR51 ?_;refine wyv 1 rfl (qai (.pointer (some ⟨bP,0,none⟩)) hT1_6) hR51 ?_;refine wyv 2 rfl (qai (vx1) hT1_0) hR51 ?_;refine wyv 3 rfl (qai (.int .i64 (y:Int)) hT1_7) hR51 ?_;obtain ⟨b52,o52,c52,p52,hv52,hi52,hj52,hM52,hr52⟩:=qt2 hvx1 hx38;replace hr52:rep _ (sl p52 (o52+Int.toNat (y:Int)*4) 4) x1[y]:=hr52;refine wyv 4 rfl (qt1 q8o rfl hv52 rfl hi52 hj52) hR51 ?_;refine wld 5 rfl (qpd q30 rfl (q71 hM52) (Xg hr52)) hR51 ?_;refine wld 6 rfl (qpd q8s rfl (bvR 0 rfl) rfl) hR51 ?_;refine w1 7 rfl (q68 rfl (qjx (vs:=[.pointer (some ⟨bP,0,none⟩),.agg (sl p52 (o52+Int.toNat (y:Int)*4) 4).toArray,.agg ([.int .i64 rp.code,.int .i64 rp.n,vR]:List Value).toArray,.pointer (some ⟨px,0,none⟩)]) (L:=[.box bP k0 90,.stk u1 9 1 xx1,.stk vR 3 1 xR,.box px [.pointer (some ⟨bo,0,none⟩)] 23,.box bo cs2 90,.stk u2 9 1 xs2]) (R:=[.box b45 [.int .i64 rp.code,.int .i64 rp.n,vR] 40]) (rv:=(fun M' u L'=>∃ k0 u1 x1 k2 u3 x3,u= .bool true∧L'=[.box bP k0 90,.stk u1 9 1 x1,.box px [.pointer (some ⟨bo,0,none⟩)] 23,.box bo k2 90,.stk u3 9 1 x3]∧rep M' k0 c'∧skr M' u1 x1 net'∧sl k0 1993 1=[u1]∧rep M' k2 c'∧skr M' u3 x3 net'∧sl k2 1993 1=[u3])) cb42 (q69 rfl rfl rfl) hS (hS.sel [1,2,3,4,5,6,0] Ed rfl) (fun hS=>qyb hS g1 g2 g3 hr52 g0 hb2 hk2 hp2 hdo hrep (hP.node c' net' hI') (hP.case c' net' hI') (hP.net c' net' hI') (hP.same c' net' hI'))) ?_);rintro u58 M58 w57 L58 hx58 ⟨k3,u3,x3,k4,u4,x4,rfl,hL58,e0,e1,e2,e3,e4,e5⟩ hS;replace hS:=hS _ hL58;refine rdn hS (hG50.trans hx58) fun hR60=>?_;refine wyv 8 rfl (q1e rfl) hR60 ?_;refine wd (qab ?_);refine qks rfl ?_;refine qfa (qjw ?_);refine (qab ?_);refine qat ?_;refine qam (qai (.int .i64 (y:Int)) hT1_7) ?_;refine qam (qpc rfl rfl) ?_;refine qam (qas (.int .i64 (IntKind.wrap .i64 ((y:Int)+1))) rfl) ?_;refine qaj (qab ?_);exact ⟨M58,k3,u3,x3,k4,u4,x4,c',net',y+1,(hx1.trans (hx42.trans hx58)),(hS.sel (H':=[.box bP k3 90,.stk u3 9 1 x3,.box px [.pointer (some ⟨bo,0,none⟩)] 23,.box bo k4 90,.stk u4 9 1 x4]) [0,1,2,3,4] Ed rfl),e0,e1,e2,e3,e4,e5,hI',hy,by omega,hT1_0,hT1_1,hT1_6,q77 hy Ed⟩
  ·refine qh1 ?_;refine qb4 ?_;refine qb4 ?_;refine qh9 ?_;refine (qab ?_);refine qan ?_;refine qat ?_;refine qam (qai (.pointer (some ⟨bP,0,none⟩)) hT1_6) ?_;refine qam (qas (.pointer (some ⟨bP,0,none⟩)) rfl) ?_;refine qam (qas (.bool true) rfl) ?_;refine qaj (qab ?_);subst hX0;exact qws (q8h rfl rfl rfl ⟨_,M1,_,rfl,(hx10.trans hx1),(hS.sel (H':=[]) [] Ed rfl),bP,rfl,rfl⟩)
 ·refine WL_s (j:=4) rfl (bf hc71 rfl) rfl ?_;refine WL_s (j:=4) rfl (bf hc71 rfl) rfl ?_;refine qam (qku (.bool false) (bf hc71 rfl) rfl) ?_;refine qaj (qab ?_);refine qks rfl ?_;refine qh1 ?_;refine qb4 ?_;refine qb4 ?_;refine qh9 ?_;refine (qab ?_);refine qan ?_;refine qat ?_;refine qam (qai (.pointer (some ⟨bP,0,none⟩)) hT1_6) ?_;refine qam (qas (.pointer (some ⟨bP,0,none⟩)) rfl) ?_;refine qam (qas (.bool true) rfl) ?_;refine qaj (qab ?_);subst hX0;exact qws (q8h rfl rfl rfl ⟨_,M1,_,rfl,(hx10.trans hx1),(hS.sel (H':=[]) [] Ed rfl),bP,rfl,rfl⟩)
theorem q9l:TZ Try.prog 23 [.pointer none]:=qh8 Ee
set_option maxRecDepth 100000 in
set_option maxHeartbeats 8000000 in
theorem topMemory_ok {M:Mm} {w:World} {vx1:Value} {x1:List GAct} {fu:Nat} {Inv:GCluster→List ByteArray→Prop} {r0:GCluster × List ByteArray} (hP:Plays fu Inv r0) (hA:Agree M w) (hvx1:repL M vx1 x1) :
 Calls Try.prog 13 #[vx1] w (qb0 w (.bool true)):=by
 refine qlv Try.func13 19 fun T hT=>?_;have hT_0:T 0=vx1:=hT 0;clear hT;have hS:St w noX M [] w:=St.start hA;refine qan ?_;refine qat ?_;refine qam (qas (.bool false) rfl) ?_;refine qaj (qab ?_);refine qvu (fun T' w'=>∃ (v6:Value) (l5:List GAct),St w noX M [] w'∧repL M v6 l5∧T' 0=v6) ?_ ?_
 ·refine qan ?_;refine qat ?_;refine qam (qai (vx1) hT_0) ?_;obtain ⟨a258,c258,hv258,hn258⟩:=qi9 hvx1;refine qam (qnl Try.underlying22 (tr2 hv258 rfl)) ?_;refine qam (q5s rfl rfl) ?_;refine qaj (qab ?_);refine qe9 rfl (fun hc=>?_) (fun hc=>?_)
  ·have hl:50<x1.length:=by have:=of_decide_eq_true hc;omega
   refine qat ?_;refine qam (qai (vx1) hT_0) ?_;have hc260:qe0 x1.length none (some 50)=some (0,50):=by
    unfold qe0;simp only [X1,A8];rw [if_pos Ec];rfl
   refine qam (qr2 (l:=none) (h:=(some 50)) q8o rfl hv258 evn (evs rfl) hc260 hn258) ?_;refine qam (qas ((qi8 vx1 4 0 50)) rfl) ?_;refine qaj (qab ?_);exact ⟨qi8 vx1 4 0 50,_,hS,qq1 hvx1 hc260,rfl⟩
  ·refine qfa (qab ?_);exact ⟨vx1,x1,hS,hvx1,hT_0⟩
 rintro T4 w2 ⟨v6,l5,hS,hv6,hT4_0⟩;refine qan ?_;refine qat ?_;refine qgk (qjx (vs:=[]) (L:=[]) (R:=[]) (rv:=(fun M' u L'=>∃ bP0 kP0 uP6 xP6,u= .pointer (some ⟨bP0,0,none⟩)∧L'=[.box bP0 kP0 90,.stk uP6 9 1 xP6]∧rep M' kP0 r0.1∧skr M' uP6 xP6 r0.2∧sl kP0 1993 1=[uP6])) q85 q1i hS (hS.sel [] Ed rfl) (fun hS=>qri hS.agree hP.new) ?_);rintro u10 M10 w9 L10 hx10 ⟨bo,kP,uP,xP,rfl,hL10,f0,f1,f2⟩ hS;replace hS:=hS _ hL10;replace hv6:=repL.mono hx10.1 hv6;refine qgk (qh7 q9l hS ?_);intro px w11 hpx hS;refine qgk (qxh (ws:=[.pointer (some ⟨bo,0,none⟩)]) 0 hS rfl rfl rfl rfl rfl (by simp [Value.oneCell']) ?_);intro w12 hS;refine qaj (qab ?_);refine qan ?_;refine qat ?_;refine qam (qai v6 hT4_0) ?_;refine qam (Y_mf (qm2 rfl)) ?_;refine qgk (qjx (vs:=[v6,.func (.func 42) #[] #[.pointer (some ⟨px,0,none⟩)]]) (L:=[.box px [.pointer (some ⟨bo,0,none⟩)] 23,.box bo kP 90,.stk uP 9 1 xP]) (R:=[]) (rv:=(fun M' u L'=>∃ bP,u= .tuple #[.pointer (some ⟨bP,0,none⟩),.bool true]∧L'=[])) cb15 (qr6 rfl rfl) hS (hS.sel [0,1,2] Ed rfl) (fun hS=>q2r hP hS hv6 f0 f1 f2) ?_);rintro u13 M13 w13 L13 hx13 ⟨bP,rfl,hL13⟩ hS;replace hS:=hS _ hL13;refine qam (qai (.tuple #[.pointer (some ⟨bP,0,none⟩),.bool true]) rfl) ?_;refine qam (qh4 (v:= .pointer (some ⟨bP,0,none⟩)) rfl rfl) ?_;refine qam (qh4 (v:= .bool true) rfl rfl) ?_;refine qam (qas (.pointer (some ⟨bP,0,none⟩)) rfl) ?_;refine qam (qas (.bool true) rfl) ?_;refine qaj (qab ?_);refine qan ?_;refine qat ?_;refine qam (qai (.bool true) rfl) ?_;refine qam (qas (.bool true) rfl) ?_;refine qaj (qab ?_);exact qws (q8g rfl rfl ⟨rfl,hS.kept⟩)
theorem qi5 {fu:Nat} (hfu:1100≤fu) {c:GCluster} {net:List ByteArray} (h:CInv c net):∀ (n m k:Nat),k+m=32→m<n→qcj fu net net n c c k=some (true,c,net,c,net)
 | 0,m,k,_,hh=>absurd hh Ec
 | n+1,0,k,hk,_=>by
  rw [qcj,qad (qae Ec),qtw h,qaa,qaa,qlq (by have:=h.net.1;dsimp only;omega) (by have:=h.net.1;dsimp only;omega),qaa]
 | n+1,m+1,k,hk,hn=>by
  obtain ⟨g1,g2⟩:=qo8 (h.cas k Ec);rw [qcj,qag (qaf Ec),qqy h Ec Ec,qaa,qaa,Bg,ql6 g1 g2 Ec,qaa,qad (c := !true) rfl,q5l k Ec];exact qi5 hfu h n m (k+1) Ec Ec
theorem qi6 {fu:Nat} (hfu:1100≤fu) {c:GCluster} {net:List ByteArray} (h:CInv c net):∀ (n m k:Nat),k+m=6→m<n→qby fu n c c net net k=some (true,c,net,c,net)
 | 0,m,k,_,hh=>absurd hh Ec
 | n+1,0,k,hk,_=>by
  rw [qby,qad (qae Ec)];exact qi5 hfu h fu 32 0 Ec Ec
 | n+1,m+1,k,hk,hn=>by
  have hg:=h.node k Ec;rw [qby,qag (qaf Ec),qqx Ec h Ec Ec,qaa,qaa,qaa,qaa,Bg,ql5 hg.sizes Ec,qaa,qad (c := !true) rfl,qad (by simp),
   q05 Ec Ec,qaa,qaa,qej,qad (by simp),qhq,q5l k Ec]
  exact qi6 hfu h n m (k+1) Ec Ec
theorem plays_eq {fu:Nat} (hfu:fu=70000):Plays fu CInv (q47,[]) where
 alive:=by rw [hfu];exact q49
 new:=q03
 start:=q48
 step c net a h:=⟨(q1d c net a).1,(q1d c net a).2.1,(q1d c net a).2.2,q2o Ec h,h.do,qlr (by have:=qx8 (c:=c) (net:=net) (a:=a);omega) Ec⟩
 node c net h i h0 h6:=⟨_,qqx Ec h h0 h6⟩
 case c net h i h0 h6:=⟨_,qqy h h0 h6⟩
 net c net h:=⟨_,qtw h⟩
 same c net h:=qi6 Ec h fu 6 0 Ec Ec
theorem op3:Opn Try.prog 3 Int:=q40 Try.underlying3 Ee
theorem op65:Opn Try.prog 65 GOp:=⟨by kernel_rfl,fun H enc w fuel cs d p h hw=>by
 have hl:cs.length=3:=by obtain ⟨_,_,_,_,hl,_⟩:=DataW.trod_struct Try.underlying65 h;rw [hl];kernel_rfl
 obtain ⟨x0,h0⟩:=qf4 (α := Int) (o:=0) (k:=1) Try.underlying65 h hw 0 _ rfl rfl rfl Ee op3
 obtain ⟨x1,h1⟩:=qf4 (α := Int) (o:=1) (k:=1) Try.underlying65 h hw 1 _ rfl rfl rfl Ee op3
 obtain ⟨x2,h2⟩:=qf4 (α := Int) (o:=2) (k:=1) Try.underlying65 h hw 2 _ rfl rfl rfl Ee op3
 exact ⟨⟨x0,x1,x2⟩,GOp.fol ⟨hl,h0,h1,h2⟩⟩⟩
theorem op27:Opn Try.prog 27 (List (GOp)):=qtm Try.underlying27 Ee op65 Ed Ee
theorem op43:Opn Try.prog 43 GAct:=⟨by kernel_rfl,fun H enc w fuel cs d p h hw=>by
 have hl:cs.length=4:=by obtain ⟨_,_,_,_,hl,_⟩:=DataW.trod_struct Try.underlying43 h;rw [hl];kernel_rfl
 obtain ⟨x0,h0⟩:=qf4 (α := Int) (o:=0) (k:=1) Try.underlying43 h hw 0 _ rfl rfl rfl Ee op3
 obtain ⟨x1,h1⟩:=qf4 (α := Int) (o:=1) (k:=1) Try.underlying43 h hw 1 _ rfl rfl rfl Ee op3
 obtain ⟨x2,h2⟩:=qf4 (α := Int) (o:=2) (k:=1) Try.underlying43 h hw 2 _ rfl rfl rfl Ee op3
 obtain ⟨x3,h3⟩:=qf4 (α := List (GOp)) (o:=3) (k:=1) Try.underlying43 h hw 3 _ rfl rfl rfl Ee op27
 exact ⟨⟨x0,x1,x2,x3⟩,GAct.fol ⟨hl,h0,h1,h2,h3⟩⟩⟩
theorem op22:Opn Try.prog 22 (List (GAct)):=qtm Try.underlying22 Ee op43 Ed Ee
end Go.Proofs.Yteilffoclpgijaa
