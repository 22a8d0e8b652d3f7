/- What the proof of ClusterPlays rests on, part 5: rules of walks, what functions compute, and plain laws of it. -/
import Derived.Test.YtaimhfbbenbdaaaGreatClusterPlaysB4
import Derived.ProofKit
import Derived.OpenShut
import Derived.ShutString
import Derived.ChangeOld
import Derived.SizedLaws
import Derived.Deep.Slices
namespace Go.Proofs.YtaimhfbbenbdaaaGreat
abbrev B6 := @List.countP_cons
abbrev E8 := @List.nodup_cons
abbrev Df := @Nat.min_le_left
abbrev Dp := @Nat.min_eq_left
abbrev Dk := @Nat.min_eq_right
abbrev E2 := @Nat.min_le_right
inductive Path (E:Nat→Nat→Prop):Nat→Nat→Prop where
 | refl (a:Nat):Path E a a
 | tail {a b c:Nat}:Path E a b→E b c→Path E a c
section
variable {E:Nat→Nat→Prop}
theorem Path.trans {a b c:Nat} (h:Path E a b) (k:Path E b c):Path E a c:=by
 induction k with
 | refl=>exact h
 | tail _ e ih=>exact .tail ih e
theorem Path.one {a b:Nat} (h:E a b):Path E a b:= .tail (.refl a) h
theorem Path.head {a b c:Nat} (h:E a b) (k:Path E b c):Path E a c:=(Path.one h).trans k
theorem Path.closed {S:Nat→Prop} (hS:∀ a b,S a→E a b→S b) {a b:Nat} (h:Path E a b) (ha:S a):S b:=by
 induction h with
 | refl=>exact ha
 | tail _ e ih=>exact hS _ _ ih e
structure Srch where
 mark:Nat→Nat
 low:Nat→Nat
 ring:Nat→Nat
 stack:List Nat
 next:Nat
def qo7 {α : Type} (f:Nat → α) (i:Nat) (x : α):Nat → α := fun k=>if k=i then x else f k
theorem qe1 {α : Type} (f:Nat → α) (i:Nat) (x : α):qo7 f i x i=x:=by simp [qo7]
theorem qdv {α : Type} (f:Nat → α) {i k:Nat} (x : α) (h:k≠i):qo7 f i x k=f k:=by simp [qo7,h]
def qzv (E:Nat→Nat→Prop) (v r:Nat):Prop:=Path E v r∧Path E r v∧∀ w,Path E v w→Path E w v→r≤w
def wh (f:Nat→Nat):Nat:=(List.range 32).countP (fun i=>f i==0)
theorem qvt {p q:Nat→Bool} {n:Nat} (hp:p n=true) (hq:q n=false) (ho:∀ k,k≠n→p k=q k):∀ (l:List Nat),l.Nodup→n∈l→l.countP p=l.countP q+1:=by
 have hsame:∀ (l:List Nat),n∉l→l.countP p=l.countP q:=by
  intro l
  induction l with
  | nil=>intro _;rfl
  | cons a t ih =>
   intro hn;simp only [Ab,not_or] at hn;rw [B6,B6,ih hn.2,ho a (fun e=>hn.1 e.symm)]
 intro l
 induction l with
 | nil=>intro _ h;cases h
 | cons a t ih =>
  intro hnd hm;rw [E8] at hnd;rw [B6,B6];by_cases e:a=n
  ·subst e;rw [hsame t hnd.1,hp,hq];simp
  ·have hmt:n∈t:=by
    rcases Ab.1 hm with h | h
    ·exact absurd h.symm e
    ·exact h
   rw [ih hnd.2 hmt,ho a e];omega
theorem qvu {p q:Nat→Bool} (h:∀ k,p k=true→q k=true) (l:List Nat):l.countP p≤l.countP q:=by
 induction l with
 | nil=>exact Ai _
 | cons a t ih =>
  rw [B6,B6];cases hp:p a with
  | false=>simp;omega
  | true=>rw [h a hp];simp;omega
theorem qzw {f:Nat→Nat} {n x:Nat} (hn:n<32) (h0:f n=0) (hx:0<x):wh f=wh (qo7 f n x)+1:=by
 unfold wh;refine qvt (n:=n) (by simp [h0]) ?_ (fun k hk=>by rw [qdv _ _ hk]) _ List.nodup_range (A9.2 hn);rw [qe1];simp;omega
theorem zdt {f f':Nat→Nat} (h:∀ v,0<f v→0<f' v):wh f'≤wh f:=by
 unfold wh;refine qvu (fun k hk=>?_) _;have hk':f' k=0:=by simpa using hk
 have:f k=0:=by
  rcases Eo (f k) with h0 | h0
  ·exact h0
  ·have:=h k h0;omega
 simp [this]
structure Inv (E:Nat→Nat→Prop) (s:Srch) (G:List Nat):Prop where
 lt:∀ v,0<s.mark v→v<32
 le:∀ v,s.mark v≤s.next
 inj:∀ u v,s.mark u=s.mark v→0<s.mark u→u=v
 cnt:s.next+wh s.mark≤32
 sorted:s.stack.Pairwise (fun a b=>s.mark a<s.mark b)
 pos:∀ v∈s.stack,0<s.mark v
 gray:∀ g∈G,g∈s.stack
 black:∀ v w,0<s.mark v→v∉G→E v w→0<s.mark w
 done:∀ v w,0<s.mark v→v∉s.stack→E v w→w∉s.stack
 ring:∀ v,0<s.mark v→v∉s.stack→qzv E v (s.ring v)
 reach:∀ x∈G,∀ y∈s.stack,s.mark x≤s.mark y→Path E x y
 back:∀ y∈s.stack,∃ x∈G,s.mark x≤s.mark y∧Path E y x
structure Ext (E:Nat→Nat→Prop) (s s':Srch) (n:Nat):Prop where
 mark_old:∀ v,0<s.mark v→s'.mark v=s.mark v
 low_old:∀ v,0<s.mark v→s'.low v=s.low v
 fresh:∀ v,s.mark v=0→0<s'.mark v→s.next<s'.mark v∧Path E n v
 next:s.next≤s'.next
structure Post (E:Nat→Nat→Prop) (s s':Srch) (n:Nat) (G:List Nat):Prop where
 inv:Inv E s' G
 ext:Ext E s s' n
 mine:0<s'.mark n
 low_le:s'.low n≤s'.mark n
 low_or:s'.low n=s'.mark n∨∃ z∈s.stack,s'.mark z=s'.low n∧Path E n z
 stack:∃ new,s'.stack=s.stack++new∧∀ y∈new,∀ z∈s.stack,E y z→s'.low n≤s'.mark z
structure LI (E:Nat→Nat→Prop) (s:Srch) (G:List Nat) (n:Nat) (t:Srch) (ds:Nat→Prop):Prop where
 was:Inv E s G
 white:s.mark n=0
 inv:Inv E t (n::G)
 ext:Ext E s t n
 nmark:t.mark n=s.next+1
 low_le:t.low n≤t.mark n
 low_or:t.low n=t.mark n∨∃ z∈s.stack,t.mark z=t.low n∧Path E n z
 stack:∃ new,t.stack=s.stack++n::new∧∀ y∈new,∀ z∈s.stack,E y z→t.low n≤t.mark z
 proc:∀ d,ds d→0<t.mark d∧(d∈s.stack→t.low n≤t.mark d)
def q1w (s:Srch) (n:Nat):Srch:={ mark:=qo7 s.mark n (s.next+1),low:=qo7 s.low n (s.next+1),ring:=s.ring,stack:=s.stack++[n],next:=s.next+1 }
theorem LI.start {s:Srch} {G:List Nat} {n:Nat} (h:Inv E s G) (hn:n<32) (h0:s.mark n=0) (hG:∀ g∈G,Path E g n):LI E s G n (q1w s n) (fun _=>False):=by
 have hns:n∉s.stack:=fun hm=>by have:=h.pos n hm;omega
 have hmk:∀ v,v≠n→(q1w s n).mark v=s.mark v:=fun v hv=>qdv _ _ hv;have hmn:(q1w s n).mark n=s.next+1:=qe1 _ _ _;have hne:∀ v,0<s.mark v→v≠n:=fun v hv e=>by subst e;omega
 have hst:(q1w s n).stack=s.stack++[n]:=rfl;refine ⟨h,h0,⟨fun v hv=>?_,fun v=>?_,fun u v huv hu=>?_,?_,?_,fun v hv=>?_,fun g hg=>?_,fun v w hv hg he=>?_,fun v w hv hs he=>?_,fun v hv hs=>?_,fun x hx y hy hxy=>?_,fun y hy=>?_⟩,⟨fun v hv=>hmk v (hne v hv),fun v hv=>qdv _ _ (hne v hv),fun v hv hv'=>?_,Nat.le_succ _⟩,hmn,?_,.inl ?_,⟨[],rfl,by simp⟩,fun d hd=>hd.elim⟩
 ·by_cases e:v=n
  ·subst e;exact hn
  ·rw [hmk v e] at hv;exact h.lt v hv
 ·show _≤s.next+1;by_cases e:v=n
  ·subst e;rw [hmn];exact Ai _
  ·rw [hmk v e];have:=h.le v;omega
 ·by_cases e1:u=n
  ·by_cases e2:v=n
   ·rw [e1,e2]
   ·subst e1;rw [hmn,hmk v e2] at huv;have:=h.le v;omega
  ·by_cases e2:v=n
   ·subst e2;rw [hmn,hmk u e1] at huv;have:=h.le u;omega
   ·rw [hmk u e1,hmk v e2] at huv;rw [hmk u e1] at hu;exact h.inj u v huv hu
 ·have:=qzw (x:=s.next+1) hn h0 Gf;have hc:=h.cnt;show s.next+1+wh (qo7 s.mark n (s.next+1))≤32;omega
 ·rw [hst,Bx];refine ⟨?_,List.pairwise_singleton _ _,fun a ha b hb=>?_⟩
  ·refine List.Pairwise.imp_of_mem (fun {a b} ha hb hab=>?_) h.sorted;rw [hmk a (fun e=>hns (e ▸ ha)),hmk b (fun e=>hns (e ▸ hb))];exact hab
  ·rw [Ag] at hb;subst hb;rw [hmn,hmk a (fun e=>hns (e ▸ ha))];have:=h.le a;omega
 ·rw [hst,Al,Ag] at hv;rcases hv with hv | rfl
  ·have:=h.pos v hv;rw [hmk v (hne v this)];exact this
  ·rw [hmn];omega
 ·rw [hst,Al,Ag];rcases Ab.1 hg with rfl | hg
  ·exact .inr rfl
  ·exact .inl (h.gray g hg)
 ·simp only [Ab,not_or] at hg;rw [hmk v hg.1] at hv;have:=h.black v w hv hg.2 he;rw [hmk w (hne w this)];exact this
 ·rw [hst,Al,Ag,not_or] at hs;rw [hmk v hs.2] at hv;rw [hst,Al,Ag,not_or];refine ⟨h.done v w hv hs.1 he,fun e=>?_⟩;subst e;have hvG:v∉G:=fun hg=>hs.1 (h.gray v hg);have:=h.black v w hv hvG he;omega
 ·rw [hst,Al,Ag,not_or] at hs;rw [hmk v hs.2] at hv;exact h.ring v hv hs.1
 ·rw [hst,Al,Ag] at hy;rcases Ab.1 hx with rfl | hx2
  ·rcases hy with hy | rfl
   ·have hp:=h.pos y hy;rw [hmn,hmk y (hne y hp)] at hxy;have:=h.le y;omega
   ·exact .refl _
  ·rcases hy with hy | rfl
   ·have hp:=h.pos y hy;have hpx:=h.pos x (h.gray x hx2);rw [hmk x (hne x hpx),hmk y (hne y hp)] at hxy;exact h.reach x hx2 y hy hxy
   ·exact hG x hx2
 ·rw [hst,Al,Ag] at hy;rcases hy with hy | rfl
  ·obtain ⟨x,hx,hxy,hp⟩:=h.back y hy;have hpx:=h.pos x (h.gray x hx);refine ⟨x,X8 _ hx,?_,hp⟩;rw [hmk x (hne x hpx),hmk y (hne y (h.pos y hy))];exact hxy
  ·exact ⟨y,Aa,Ai _,.refl _⟩
 ·by_cases e:v=n
  ·subst e;rw [hmn];exact ⟨by omega,.refl _⟩
  ·rw [hmk v e] at hv';omega
 ·rw [hmn];show qo7 s.low n (s.next+1) n≤_;rw [qe1];exact Ai _
 ·rw [hmn];exact qe1 _ _ _
theorem Inv.low {s:Srch} {G:List Nat} (h:Inv E s G) (l:Nat→Nat):Inv E { s with low:=l } G :=
 ⟨h.lt,h.le,h.inj,h.cnt,h.sorted,h.pos,h.gray,h.black,h.done,h.ring,h.reach,h.back⟩
section
variable {s t:Srch} {G:List Nat} {n:Nat} {ds:Nat→Prop}
theorem LI.old (h:LI E s G n t ds) {z:Nat} (hz:z∈s.stack):0<s.mark z∧t.mark z=s.mark z∧t.mark z<t.mark n:=by
 have h1:=h.was.pos z hz;have h2:=h.ext.mark_old z h1;have h3:=h.was.le z;refine ⟨h1,h2,?_⟩;rw [h2,h.nmark];omega
theorem LI.new (h:LI E s G n t ds) {new:List Nat} (hst:t.stack=s.stack++n::new) {y:Nat} (hy:y∈n::new):t.mark n≤t.mark y:=by
 have h1:=h.inv.sorted;rw [hst,Bx] at h1;rcases Ab.1 hy with rfl | hy
 ·exact Ai _
 ·exact Nat.le_of_lt ((A6.1 h1.2.1).1 y hy)
theorem LI.visit {t':Srch} {d:Nat} (h:LI E s G n t ds) (hd0:t.mark d=0) (he:E n d) (hp:Post E t t' d (n::G)) :
 LI E s G n { t' with low:=qo7 t'.low n (min (t'.low n) (t'.low d)) } (fun x=>ds x∨x=d):=by
 have hn0:0<t.mark n:=by rw [h.nmark];omega
 have hmn:t'.mark n=t.mark n:=hp.ext.mark_old n hn0;have hln:t'.low n=t.low n:=hp.ext.low_old n hn0;have hmd:=hp.ext.fresh d hd0 hp.mine;have hnn:t.mark n≤t.next:=h.inv.le n;obtain ⟨new,hst,hnew⟩:=h.stack;obtain ⟨newd,hst',hnew'⟩:=hp.stack;have hlow2:(qo7 t'.low n (min (t'.low n) (t'.low d))) n=min (t.low n) (t'.low d):=by rw [qe1,hln]
 refine ⟨h.was,h.white,hp.inv.low _,⟨fun v hv=>?_,fun v hv=>?_,fun v hv hv'=>?_,A1 h.ext.next hp.ext.next⟩,by rw [← h.nmark];exact hmn,?_,?_,⟨new++newd,?_,fun y hy z hz hyz=>?_⟩,fun x hx=>?_⟩
 ·have h1:=h.ext.mark_old v hv;rw [hp.ext.mark_old v Gf];exact h1
 ·have h1:=h.ext.mark_old v hv;have hvn:v≠n:=fun e=>by subst e;rw [h.white] at hv;omega
  show qo7 t'.low n _ v=_;rw [qdv _ _ hvn,hp.ext.low_old v Gf];exact h.ext.low_old v hv
 ·rcases Eo (t.mark v) with h0 | h0
  ·have h1:=hp.ext.fresh v h0 hv';have h2:=h.ext.next;exact ⟨by show s.next<t'.mark v;omega,Path.head he h1.2⟩
  ·have h1:=hp.ext.mark_old v h0;have h2:=h.ext.fresh v hv h0;exact ⟨by show s.next<t'.mark v;rw [h1];exact h2.1,h2.2⟩
 ·show qo7 t'.low n _ n≤t'.mark n;rw [hlow2,hmn];exact A1 (Df _ _) h.low_le
 ·show qo7 t'.low n _ n=t'.mark n∨∃ z∈s.stack,t'.mark z=qo7 t'.low n _ n∧Path E n z;rw [hlow2,hmn];by_cases hle:t.low n≤t'.low d
  ·rw [Dp hle];rcases h.low_or with h1 | ⟨z,hz,h1,h2⟩
   ·exact .inl h1
   ·have h3:=h.old hz;exact .inr ⟨z,hz,by rw [hp.ext.mark_old z Gf];exact h1,h2⟩
  ·rw [Dk Gf];have hll:=h.low_le;rcases hp.low_or with h1 | ⟨z,hz,h1,h2⟩
   ·omega
   ·refine .inr ⟨z,?_,h1,Path.head he h2⟩;have hz':=hz;rw [hst] at hz';rcases Al.1 hz' with h3 | h3
    ·exact h3
    ·have h4:=h.new hst h3;have h5:=hp.ext.mark_old z (h.inv.pos z hz);omega
 ·show t'.stack=_;rw [hst',hst];simp
 ·show qo7 t'.low n _ n≤t'.mark z;rw [hlow2];have h3:=h.old hz;have h4:=hp.ext.mark_old z Gf;rcases Al.1 hy with hy | hy
  ·have:=hnew y hy z hz hyz;rw [h4];exact A1 (Df _ _) this
  ·have:=hnew' y hy z (by rw [hst];exact Bk _ hz) hyz;exact A1 (E2 _ _) this
 ·show 0<t'.mark x∧(x∈s.stack→qo7 t'.low n _ n≤t'.mark x);rw [hlow2];rcases hx with hx | rfl
  ·have h1:=h.proc x hx;have h2:=hp.ext.mark_old x h1.1;rw [h2];exact ⟨h1.1,fun hs=>A1 (Df _ _) (h1.2 hs)⟩
  ·exact ⟨hp.mine,fun hs=>by have:=h.old hs;omega⟩
theorem LI.on {d:Nat} (h:LI E s G n t ds) (hd:d∈t.stack) (he:E n d) :
 LI E s G n { t with low:=qo7 t.low n (min (t.low n) (t.mark d)) } (fun x=>ds x∨x=d):=by
 obtain ⟨new,hst,hnew⟩:=h.stack;have hlow2:(qo7 t.low n (min (t.low n) (t.mark d))) n=min (t.low n) (t.mark d):=qe1 _ _ _;refine ⟨h.was,h.white,h.inv.low _,⟨h.ext.mark_old,fun v hv=>?_,h.ext.fresh,h.ext.next⟩,h.nmark,?_,?_,⟨new,hst,fun y hy z hz hyz=>?_⟩,fun x hx=>?_⟩
 ·have hvn:v≠n:=fun e=>by subst e;rw [h.white] at hv;omega
  show qo7 t.low n _ v=_;rw [qdv _ _ hvn];exact h.ext.low_old v hv
 ·show qo7 t.low n _ n≤t.mark n;rw [hlow2];exact A1 (Df _ _) h.low_le
 ·show qo7 t.low n _ n=t.mark n∨∃ z∈s.stack,t.mark z=qo7 t.low n _ n∧Path E n z;rw [hlow2];by_cases hle:t.low n≤t.mark d
  ·rw [Dp hle];exact h.low_or
  ·rw [Dk Gf];have hll:=h.low_le;refine .inr ⟨d,?_,rfl,Path.one he⟩;have hd':=hd;rw [hst] at hd';rcases Al.1 hd' with h3 | h3
   ·exact h3
   ·have h4:=h.new hst h3;omega
 ·show qo7 t.low n _ n≤t.mark z;rw [hlow2];exact A1 (Df _ _) (hnew y hy z hz hyz)
 ·show 0<t.mark x∧(x∈s.stack→qo7 t.low n _ n≤t.mark x);rw [hlow2];rcases hx with hx | rfl
  ·have h1:=h.proc x hx;exact ⟨h1.1,fun hs=>A1 (Df _ _) (h1.2 hs)⟩
  ·exact ⟨h.inv.pos x hd,fun _=>E2 _ _⟩
theorem LI.skip {d:Nat} (h:LI E s G n t ds) (hm:0<t.mark d) (hd:d∉t.stack):LI E s G n t (fun x=>ds x∨x=d):=by
 obtain ⟨new,hst,hnew⟩:=h.stack;refine ⟨h.was,h.white,h.inv,h.ext,h.nmark,h.low_le,h.low_or,h.stack,fun x hx=>?_⟩;rcases hx with hx | rfl
 ·exact h.proc x hx
 ·exact ⟨hm,fun hs=>absurd (by rw [hst];exact Bk _ hs) hd⟩
theorem LI.keep (h:LI E s G n t ds) (hall:∀ d,E n d→ds d) (hlow:t.low n≠t.mark n):Post E s t n G:=by
 obtain ⟨new,hst,hnew⟩:=h.stack;have hlt:t.low n<t.mark n:=Nat.lt_of_le_of_ne h.low_le hlow;obtain ⟨z,hz,hm,hp⟩:∃ z∈s.stack,t.mark z=t.low n∧Path E n z:=by
  rcases h.low_or with h1 | h1
  ·exact absurd h1 hlow
  ·exact h1
 refine ⟨⟨h.inv.lt,h.inv.le,h.inv.inj,h.inv.cnt,h.inv.sorted,h.inv.pos,fun g hg=>h.inv.gray g (X8 _ hg),fun v w hv hg hvw=>?_,h.inv.done,h.inv.ring,fun x hx=>h.inv.reach x (X8 _ hx),fun y hy=>?_⟩,h.ext,by rw [h.nmark];omega,h.low_le,h.low_or,⟨n::new,hst,fun y hy z hz hyz=>?_⟩⟩
 ·by_cases e:v=n
  ·subst e;exact (h.proc w (hall w hvw)).1
  ·exact h.inv.black v w hv (by simp only [Ab,not_or];exact ⟨e,hg⟩) hvw
 ·obtain ⟨x,hx,hxy,p⟩:=h.inv.back y hy;rcases Ab.1 hx with rfl | hx
  ·obtain ⟨x',hx',hxz,p'⟩:=h.was.back z hz;have h1:=h.old hz;have h2:=h.old (h.was.gray x' hx');exact ⟨x',hx',by omega,(p.trans hp).trans p'⟩
  ·exact ⟨x,hx,hxy,p⟩
 ·rcases Ab.1 hy with rfl | hy
  ·exact (h.proc z (hall z hyz)).2 hz
  ·exact hnew y hy z hz hyz
theorem LI.pop (h:LI E s G n t ds) (hall:∀ d,E n d→ds d) (hlow:t.low n=t.mark n) {new:List Nat} (hst:t.stack=s.stack++n::new) {r:Nat} {ring':Nat→Nat} (hr1:∀ v∈n::new,ring' v=r)
 (hr2:∀ v,v∉n::new→ring' v=t.ring v) (hmem:r∈n::new) (hmin:∀ v∈n::new,r≤v):Post E s { t with ring:=ring',stack:=s.stack } n G:=by
 obtain ⟨new2,hst2,hnew⟩:=h.stack;have e2:new2=new:=by
  rw [hst] at hst2;have:=List.append_cancel_left hst2;simp only [List.cons.injEq,true_and] at this;exact this.symm
 subst e2;have hC:∀ y∈n::new2,y∈t.stack:=fun y hy=>by rw [hst];exact B2 _ hy
 have hCn:∀ y∈n::new2,t.mark n≤t.mark y:=fun y hy=>h.new hst hy;have hS:∀ y∈s.stack,y∈t.stack:=fun y hy=>by rw [hst];exact Bk _ hy
 have hdis:∀ y∈n::new2,y∉s.stack:=fun y hy hs=>by have:=hCn y hy;have:=h.old hs;omega
 have hfrom:∀ y∈n::new2,Path E n y:=fun y hy=>h.inv.reach n Aa y (hC y hy) (hCn y hy);have hto:∀ y∈n::new2,Path E y n:=fun y hy=>by
  obtain ⟨x,hx,hxy,p⟩:=h.inv.back y (hC y hy);refine p.trans (h.inv.reach x hx n (hC n Aa) ?_);rcases Ab.1 hx with rfl | hx
  ·exact Ai _
  ·have:=h.old (h.was.gray x hx);omega
 have hout:∀ y∈n::new2,∀ w,E y w→0<t.mark w∧(w∈n::new2∨w∉t.stack):=by
  intro y hy w hyw;have hw0:0<t.mark w:=by
   rcases Ab.1 hy with rfl | hy'
   ·exact (h.proc w (hall w hyw)).1
   ·refine h.inv.black y w (h.inv.pos y (hC y hy)) ?_ hyw;simp only [Ab,not_or];refine ⟨fun e=>?_,fun hg=>hdis y hy (h.was.gray y hg)⟩;subst e;have h1:=h.inv.sorted;rw [hst,Bx] at h1;exact absurd ((A6.1 h1.2.1).1 y hy') (Gb _)
  refine ⟨hw0,?_⟩;by_cases hws:w∈t.stack
  ·left;have hws':=hws;rw [hst] at hws';rcases Al.1 hws' with h3 | h3
   ·have h4:=h.old h3;have h5:t.low n≤t.mark w:=by
     rcases Ab.1 hy with rfl | hy'
     ·exact (h.proc w (hall w hyw)).2 h3
     ·exact hnew y hy' w h3 hyw
    omega
   ·exact h3
  ·exact .inr hws
 have hdone:∀ a b,(0<t.mark a∧a∉t.stack)→E a b→(0<t.mark b∧b∉t.stack):=fun a b ⟨h1,h2⟩ hab =>
  ⟨h.inv.black a b h1 (fun hg=>h2 (h.inv.gray a hg)) hab,h.inv.done a b h1 h2 hab⟩
 have hclosed:∀ a b,(0<t.mark a∧(a∈n::new2∨a∉t.stack))→E a b→(0<t.mark b∧(b∈n::new2∨b∉t.stack)):=by
  rintro a b ⟨h1,h2 | h2⟩ hab
  ·exact hout a h2 b hab
  ·have:=hdone a b ⟨h1,h2⟩ hab;exact ⟨this.1,.inr this.2⟩
 have hnot:∀ v,v∉s.stack→v∉n::new2→v∉t.stack:=fun v h1 h2 h3=>by
  rw [hst] at h3;rcases Al.1 h3 with h3 | h3
  ·exact h1 h3
  ·exact h2 h3
 have hsorted:s.stack.Pairwise (fun a b=>t.mark a<t.mark b):=by
  have h1:=h.inv.sorted;rw [hst,Bx] at h1;exact h1.1
 refine ⟨⟨h.inv.lt,h.inv.le,h.inv.inj,h.inv.cnt,hsorted,fun v hv=>h.inv.pos v (hS v hv),h.was.gray,fun v w hv hg hvw=>?_,fun v w hv hs hvw=>?_,fun v hv hs=>?_,fun x hx y hy=>h.inv.reach x (X8 _ hx) y (hS y hy),fun y hy=>?_⟩,
  ⟨h.ext.mark_old,h.ext.low_old,h.ext.fresh,h.ext.next⟩,by show 0<t.mark n;rw [h.nmark];omega,h.low_le,.inl hlow,⟨[],by simp,by simp⟩⟩
 ·by_cases e:v=n
  ·subst e;exact (h.proc w (hall w hvw)).1
  ·exact h.inv.black v w hv (by simp only [Ab,not_or];exact ⟨e,hg⟩) hvw
 ·by_cases hvC:v∈n::new2
  ·rcases (hout v hvC w hvw).2 with h1 | h1
   ·exact hdis w h1
   ·exact fun h2=>h1 (hS w h2)
  ·have:=h.inv.done v w hv (hnot v hs hvC) hvw;exact fun h2=>this (hS w h2)
 ·by_cases hvC:v∈n::new2
  ·show qzv E v (ring' v);rw [hr1 v hvC];refine ⟨(hto v hvC).trans (hfrom r hmem),(hto r hmem).trans (hfrom v hvC),fun w hvw hwv=>hmin w ?_⟩;have h1:=Path.closed (S:=fun a=>0<t.mark a∧(a∈n::new2∨a∉t.stack)) hclosed hvw ⟨hv,.inl hvC⟩;rcases h1.2 with h2 | h2
   ·exact h2
   ·have h3:=Path.closed (S:=fun a=>0<t.mark a∧a∉t.stack) hdone hwv ⟨h1.1,h2⟩;exact absurd (hC v hvC) h3.2
  ·show qzv E v (ring' v);rw [hr2 v hvC];exact h.inv.ring v hv (hnot v hs hvC)
 ·obtain ⟨x,hx,hxy,p⟩:=h.was.back y hy;have h1:=h.old hy;have h2:=h.old (h.was.gray x hx);exact ⟨x,hx,by show t.mark x≤t.mark y;omega,p⟩
end
theorem Inv.empty {s:Srch} (h1:∀ v,s.mark v=0) (h2:s.stack=[]) (h3:s.next=0):Inv E s []:=by
 refine ⟨fun v hv=>?_,fun v=>?_,fun u v _ hu=>?_,?_,(by rw [h2];exact .nil),fun v hv=>?_,fun g hg=>(by cases hg),fun v w hv=>?_,fun v w hv=>?_,fun v hv=>?_,fun x hx=>(by cases hx),fun y hy=>?_⟩
 ·rw [h1] at hv;omega
 ·rw [h1];omega
 ·rw [h1] at hu;omega
 ·rw [h3];have:wh s.mark≤32:=by
   have:=List.countP_le_length (p:=fun i=>s.mark i==0) (l:=List.range 32);rw [List.length_range] at this;exact this
  omega
 ·rw [h2] at hv;cases hv
 ·rw [h1] at hv;omega
 ·rw [h1] at hv;omega
 ·rw [h1] at hv;omega
 ·rw [h2] at hy;cases hy
theorem Post.final {s s':Srch} {n:Nat} (h:Post E s s' n []) (h1:∀ v,s.mark v=0):(∀ v,0<s'.mark v↔Path E n v)∧∀ v,Path E n v→qzv E v (s'.ring v):=by
 have hst:∀ y,y∉s'.stack:=fun y hy=>by obtain ⟨x,hx,_⟩:=h.inv.back y hy;cases hx
 have hp:∀ v,Path E n v→0<s'.mark v:=fun v hv=>Path.closed (S:=fun a=>0<s'.mark a) (fun a b ha hab=>h.inv.black a b ha (by simp) hab) hv h.mine;exact ⟨fun v=>⟨fun hv=>(h.ext.fresh v (h1 v) hv).2,hp v⟩,fun v hv=>h.inv.ring v (hp v hv) (hst v)⟩
end
set_option linter.unusedVariables false
abbrev Du := @List.nodup_append
abbrev Ea := @List.length_pos_of_mem
theorem qnl:∀ (n:Nat) (l:List Nat),l.Nodup→(∀ x∈l,x<n)→l.length≤n
 | 0,l,_,h=>by
  cases l with
  | nil=>simp
  | cons a t=>exact absurd (h a List.mem_cons_self) (Nat.not_lt_zero _)
 | n+1,l,hn,h=>by
  have h1:=qnl n (l.filter (· != n)) (hn.filter _) (fun x hx=>by
   rw [List.mem_filter] at hx
   have:=h x hx.1
   have h2:x≠n:=by simpa using hx.2
   omega)
  have h2:l.length≤(l.filter (· != n)).length+1:=by
   clear h1 h
   induction l with
   | nil=>simp
   | cons a t ih =>
    rw [E8] at hn;have ih:=ih hn.2;by_cases e:a=n
    ·subst e;have:t.filter (· != a)=t:=List.filter_eq_self.2 fun x hx=>by simp;rintro rfl;exact hn.1 hx
     simp [this]
    ·rw [List.filter_cons_of_pos (by simpa using e)];simp only [Ah];omega
  omega
theorem q9h {p q:Nat→Bool} (h:∀ k,q k=true→p k=true) {x:Nat} (hp:p x=true) (hq:q x=false):∀ (l:List Nat),x∈l→l.countP q<l.countP p:=by
 intro l
 induction l with
 | nil=>intro h;cases h
 | cons a t ih =>
  intro hm;rw [B6,B6];have hle:=qvu h t;rcases Ab.1 hm with rfl | hm
  ·rw [hp,hq];simp;omega
  ·have:=ih hm;cases hqa:q a with
   | false=>simp;omega
   | true=>rw [h a hqa];simp;omega
def qkf (P:Nat→Nat→Bool) (n:Nat) (out:List Nat) (m:Nat):Bool:=P n m&&(!out.contains m&&(List.range 32).all fun d => !P m d||(P d m||out.contains d))
def qjq (P:Nat→Nat→Bool) (n:Nat) (out:List Nat):Option Nat:=(List.range 32).find? (qkf P n out)
def q1x (P:Nat→Nat→Bool) (c:Nat):List Nat:=(List.range 32).filter fun m=>P c m&&P m c
def qmh (P:Nat→Nat→Bool) (n:Nat):Nat→List Nat→List Nat
 | 0,out=>out
 | k+1,out=>match qjq P n out with
  | none=>out
  | some c=>qmh P n k (out++q1x P c)
def q5k (P:Nat→Nat→Bool) (n:Nat):List Nat:=qmh P n 32 []
structure Pre (P:Nat→Nat→Bool):Prop where
 refl:∀ a,a<32→P a a=true
 trans:∀ a b c,P a b=true→P b c=true→P a c=true
 lt:∀ a b,a<32→P a b=true→b<32
structure OKO (P:Nat→Nat→Bool) (n:Nat) (out:List Nat):Prop where
 nodup:out.Nodup
 lt:∀ m∈out,m<32
 sub:∀ m∈out,P n m=true
 dc:∀ m∈out,∀ d,P m d=true→d∈out
section
variable {P:Nat→Nat→Bool} {n:Nat} {out:List Nat}
theorem candO_iff {m:Nat}:qkf P n out m=true↔P n m=true∧m∉out∧∀ d,d<32→P m d=true→P d m=true∨d∈out:=by
 simp only [qkf,X9,Dt,Bn,A9,Do,List.contains_eq_mem,decide_eq_true_eq,decide_eq_false_iff_not];constructor
 ·rintro ⟨h1,h2,h3⟩;refine ⟨h1,h2,fun d hd hm=>?_⟩;rcases h3 d hd with h | h
  ·rw [hm] at h;cases h
  ·exact h
 ·rintro ⟨h1,h2,h3⟩;refine ⟨h1,h2,fun d hd=>?_⟩;cases hm:P m d with
  | false=>exact .inl rfl
  | true=>exact .inr (h3 d hd hm)
theorem qg6 {c:Nat} (h:qjq P n out=some c):c<32∧qkf P n out c=true∧∀ m,m<c→qkf P n out m=false:=by
 unfold qjq at h;have h1:=List.find?_some h;have h2:=List.mem_of_find?_eq_some h;refine ⟨A9.1 h2,h1,fun m hm=>?_⟩;rw [List.find?_range_eq_some] at h;have:=h.2.2 m hm;simpa using this
theorem zbn {c:Nat} (hc:c<32) (h1:qkf P n out c=true) (h2:∀ m,m<c→qkf P n out m=false):qjq P n out=some c:=by
 unfold qjq;rw [List.find?_range_eq_some];exact ⟨h1,A9.2 hc,fun m hm=>by simp [h2 m hm]⟩
theorem nextO_none:qjq P n out=none↔∀ m,m<32→qkf P n out m=false:=by
 unfold qjq;rw [List.find?_eq_none];simp
theorem mem_ringO {c m:Nat}:m∈q1x P c↔m<32∧P c m=true∧P m c=true:=by
 simp [q1x,List.mem_filter,A9]
theorem OKO.nil:OKO P n []:=⟨List.nodup_nil,by simp,by simp,by simp⟩
theorem OKO.step (hP:Pre P) (hn:n<32) (h:OKO P n out) {c:Nat} (hc:qjq P n out=some c):OKO P n (out++q1x P c):=by
 obtain ⟨hc32,hcand,_⟩:=qg6 hc;rw [candO_iff] at hcand;obtain ⟨h1,h2,h3⟩:=hcand;refine ⟨?_,fun m hm=>?_,fun m hm=>?_,fun m hm d hd=>?_⟩
 ·rw [Du];refine ⟨h.nodup,List.nodup_range.filter _,fun a ha b hb=>?_⟩;rintro rfl;exact h2 (h.dc a ha c (mem_ringO.1 hb).2.2)
 ·rcases Al.1 hm with hm | hm
  ·exact h.lt m hm
  ·exact (mem_ringO.1 hm).1
 ·rcases Al.1 hm with hm | hm
  ·exact h.sub m hm
  ·exact hP.trans _ _ _ h1 (mem_ringO.1 hm).2.1
 ·rcases Al.1 hm with hm | hm
  ·exact Bk _ (h.dc m hm d hd)
  ·obtain ⟨hm32,hcm,hmc⟩:=mem_ringO.1 hm;have hcd:=hP.trans _ _ _ hcm hd;have hd32:=hP.lt m d hm32 hd;rcases h3 d hd32 hcd with h4 | h4
   ·exact B2 _ (mem_ringO.2 ⟨hd32,hcd,h4⟩)
   ·exact Bk _ h4
theorem qsq (hP:Pre P) {c:Nat} (hc:c<32):c∈q1x P c:=mem_ringO.2 ⟨hc,hP.refl c hc,hP.refl c hc⟩
theorem OKO.len (h:OKO P n out):out.length≤32:=qnl 32 out h.nodup h.lt
theorem OKO.full (h:OKO P n out) (hl:32≤out.length):qjq P n out=none:=by
 rw [nextO_none];intro m hm;cases hc:qkf P n out m with
 | false=>rfl
 | true =>
  rw [candO_iff] at hc;have:=qnl 32 (m::out) (E8.2 ⟨hc.2.1,h.nodup⟩) (fun x hx=>by
   rcases Ab.1 hx with rfl | hx
   ·exact hm
   ·exact h.lt x hx)
  simp only [Ah] at this;omega
theorem OKO.more (hP:Pre P) (hn:n<32) (h:OKO P n out):∀ (k m:Nat),(List.range 32).countP (P m)≤k→P n m=true→m∉out→qjq P n out≠none
 | k,m,hk,hm,hmo=>by
  intro h0;have hm32:=hP.lt n m hn hm;have hno:=nextO_none.1 h0 m hm32;by_cases hall:∀ d,d<32→P m d=true→P d m=true∨d∈out
  ·rw [candO_iff.2 ⟨hm,hmo,hall⟩] at hno;cases hno
  ·have hex:∃ d,d<32∧P m d=true∧P d m=false∧d∉out:=by
    refine Classical.byContradiction fun hne=>hall fun d hd hmd=>?_;by_cases h1:d∈out
    ·exact .inr h1
    ·cases h2:P d m with
     | true=>exact .inl rfl
     | false=>exact absurd ⟨d,hd,hmd,h2,h1⟩ hne
   obtain ⟨d,hd,hmd,hdm,hdo⟩:=hex;have hlt:(List.range 32).countP (P d)<(List.range 32).countP (P m) :=
    q9h (p:=P m) (q:=P d) (fun x hx=>hP.trans _ _ x hmd hx) (hP.refl m hm32) hdm _ (A9.2 hm32)
   cases k with
   | zero=>omega
   | succ k=>exact OKO.more hP hn h k d Gf (hP.trans _ _ _ hm hmd) hdo h0
theorem qya (hP:Pre P) (hn:n<32):∀ (k:Nat) (out:List Nat),OKO P n out→32≤k+out.length→OKO P n (qmh P n k out)∧qjq P n (qmh P n k out)=none
 | 0,out,h,hk=>⟨h,h.full Gf⟩
 | k+1,out,h,hk=>by
  unfold qmh;cases hc:qjq P n out with
  | none=>exact ⟨h,hc⟩
  | some c =>
   refine qya hP hn k _ (h.step hP hn hc) ?_;have:=Ea (qsq hP (qg6 hc).1);rw [Ac];omega
theorem q1y (hP:Pre P) (hn:n<32):OKO P n (q5k P n):=(qya hP hn 32 [] OKO.nil (by simp)).1
end
open Go.RowKit
open Rep (rep)
abbrev Et := @Vector.getElem_set
abbrev Ap := @Bool.not_false
section
variable {α : Type} {n:Nat} {v:Vector α n} {k:Nat}
theorem qsr (hk:k<n):qam v (k:Int)=some v[k]:=by
 unfold qam;rw [if_pos (B5 k)];simp [hk]
theorem qc9 {x : α} (hk:k<n):qdc v (k:Int) x=some (v.set k x):=by
 unfold qdc;rw [if_pos ⟨B5 k,by omega⟩];congr 1;refine Vector.ext fun j hj=>?_;simp [Dc,Et]
end
def bat (v:Vector Bool 32) (k:Nat):Bool:=v[k]?.getD false
theorem q5l {v:Vector Bool 32} {k:Nat} (hk:k<32):v[k]=bat v k:=by simp [bat,hk]
theorem qss {v:Vector Bool 32} {k:Nat} (hk:k<32):qam v (k:Int)=some (bat v k):=by rw [qsr hk,q5l hk]
theorem qfc {v:Vector Bool 32} {k j:Nat} {x:Bool} (hk:k<32):bat (v.set k x) j=if k=j then x else bat v j:=by
 unfold bat;by_cases hj:j<32
 ·simp only [Vector.getElem?_set];by_cases e:k=j
  ·subst e;simp
  ·simp [e]
 ·have hkj:k≠j:=by omega
  simp [hj,hkj]
theorem q9i {v u:Vector Bool 32} (h:∀ k,k<32→bat v k=bat u k):v=u:=by
 refine Vector.ext fun k hk=>?_;rw [q5l hk,q5l hk];exact h k hk
theorem quj (k:Nat):bat (Zr.zd:Vector Bool 32) k=false:=by
 show bat (Vector.replicate 32 false) k=false;unfold bat;by_cases hk:k<32<;>simp [hk]
def cz (v:Vector Bool 32):Nat:=(List.range 32).countP fun k => !bat v k
theorem q9j {v:Vector Bool 32} {k:Nat} (hk:k<32) (h:bat v k=false):cz v=cz (v.set k true)+1:=by
 unfold cz;refine qvt (n:=k) (by simp [h]) (by rw [qfc hk,if_pos rfl];rfl) (fun j hj=>?_) _ List.nodup_range (A9.2 hk);rw [qfc hk,if_neg (fun e=>hj e.symm)]
theorem zg3 (v:Vector Bool 32):cz v≤32:=by
 unfold cz;have:=List.countP_le_length (p:=fun k => !bat v k) (l:=List.range 32);rw [List.length_range] at this;exact this
theorem q9k {v u:Vector Bool 32} (h:∀ k,bat v k=true→bat u k=true):cz u≤cz v:=by
 unfold cz;refine qvu (fun k hk=>?_) _;cases hv:bat v k with
 | false=>rfl
 | true=>rw [h k hv] at hk;cases hk
def qa5 (g:GGraph) (a:Nat):List Int:=if h:a<32 then g.deps[a] else []
theorem zeh {g:GGraph} {a:Nat} (h:a<32):qam g.deps (a:Int)=some (qa5 g a):=by rw [qsr h];simp [qa5,h]
def qo1 (g:GGraph) (a b:Nat):Prop:=a<32∧bat g.known a=true∧(b:Int)∈qa5 g a∧b<32
def qly (g:GGraph) (N:Nat):Prop:=∀ a,(qa5 g a).length<N∧(qa5 g a).length≤17592186043904
theorem qzx {g:GGraph} {a b:Nat} (h:Path (qo1 g) a b) (ha:a<32):b<32:=by
 cases h with
 | refl=>exact ha
 | tail _ e=>exact e.2.2.2
theorem qrg {l:List Int} (h:l.length≤100):(l.length+1)*Rep.bytes Int≤140737488351232:=by
 have:Rep.bytes Int=8:=rfl;rw [this];omega
theorem wrs (k:Nat) (h:k≤17592186043904):Gr ((k:Int)+1)=((k+1:Nat):Int):=by rw [qa3 Gf Gf];omega
theorem qhy (x:Int):(∃ b:Nat,b<32∧x=b)∨¬ (0≤x∧x<32):=by
 by_cases h:0≤x∧x<32
 ·exact .inl ⟨x.toNat,by omega,by omega⟩
 ·exact .inr h
theorem qzy {α : Type} {l:List α} {k:Nat} (hk:k<l.length):l.drop k=l[k]::l.drop (k+1):=Ad hk
structure Fed (ds:List Int) (d:Vector Bool 32) (l:List Int) (d':Vector Bool 32) (l':List Int):Prop where
 keep:∀ k,bat d k=true→bat d' k=true
 all:∀ b:Nat,b<32→(b:Int)∈ds→bat d' b=true
 only:∀ k,bat d' k=true→bat d k=true∨((k:Int)∈ds∧(k:Int)∈l')
 old:∀ x,x∈l→x∈l'
 new:∀ x,x∈l'→x∈l∨∃ b:Nat,b<32∧x=b∧(b:Int)∈ds∧bat d' b=true
 cnt:l'.length+cz d'=l.length+cz d
theorem Fed.refl {d:Vector Bool 32} {l:List Int}:Fed [] d l d l:=⟨fun _ h=>h,fun _ _ h=>by simp at h,fun _ h => .inl h,fun _ h=>h,fun _ h => .inl h,rfl⟩
theorem Fed.skip {x:Int} {ds:List Int} {d d':Vector Bool 32} {l l':List Int} (hx:∀ b:Nat,b<32→x=b→bat d b=true) (h:Fed ds d l d' l'):Fed (x::ds) d l d' l':=by
 refine ⟨h.keep,fun b hb hm=>?_,fun k hk=>?_,h.old,fun y hy=>?_,h.cnt⟩
 ·rcases Ab.1 hm with e | hm
  ·exact h.keep b (hx b hb e.symm)
  ·exact h.all b hb hm
 ·rcases h.only k hk with h1 | h1
  ·exact .inl h1
  ·exact .inr ⟨X8 _ h1.1,h1.2⟩
 ·rcases h.new y hy with h1 | ⟨b,h1,h2,h3,h4⟩
  ·exact .inl h1
  ·exact .inr ⟨b,h1,h2,X8 _ h3,h4⟩
theorem Fed.push {a:Nat} {ds:List Int} {d d':Vector Bool 32} {l l':List Int} (ha:a<32) (hd:bat d a=false) (h:Fed ds (d.set a true) (l++[(a:Int)]) d' l'):Fed ((a:Int)::ds) d l d' l':=by
 have hset:bat (d.set a true) a=true:=by rw [qfc ha,if_pos rfl]
 refine ⟨fun k hk=>h.keep k (by rw [qfc ha];split<;>simp [hk]),fun b hb hm=>?_,fun k hk=>?_,fun y hy=>h.old y (Bk _ hy),fun y hy=>?_,?_⟩
 ·rcases Ab.1 hm with e | hm
  ·have:b=a:=by omega
   subst this;exact h.keep b hset
  ·exact h.all b hb hm
 ·rcases h.only k hk with h1 | h1
  ·rw [qfc ha] at h1;by_cases e:a=k
   ·subst e;exact .inr ⟨Aa,h.old _ (by simp)⟩
   ·rw [if_neg e] at h1;exact .inl h1
  ·exact .inr ⟨X8 _ h1.1,h1.2⟩
 ·rcases h.new y hy with h1 | ⟨b,h1,h2,h3,h4⟩
  ·rcases Al.1 h1 with h1 | h1
   ·exact .inl h1
   ·rw [Ag] at h1;exact .inr ⟨a,ha,h1,Aa,h.keep a hset⟩
  ·exact .inr ⟨b,h1,h2,X8 _ h3,h4⟩
 ·have h1:=h.cnt;have h2:=q9j ha hd;rw [Ac] at h1;simp only [Ah,A8] at h1;omega
theorem qvv {rec:Vector Bool 32→List Int→Option (Vector Bool 32)} {ds:List Int} (hds:ds.length≤17592186043904):∀ (n m k:Nat) (d:Vector Bool 32) (l:List Int),ds.length=k+m→m<n→l.length+cz d≤100 →
 ∃ d' l',qe5 rec ds n d l k=rec d' l'∧Fed (ds.drop k) d l d' l'
 | 0,m,k,d,l,_,h,_=>absurd h Gf
 | n+1,0,k,d,l,hk,_,_=>⟨d,l,by rw [qe5,qad (qab Gf)],by rw [List.drop_of_length_le Gf];exact Fed.refl⟩
 | n+1,m+1,k,d,l,hk,hn,hl=>by
  have hlt:k<ds.length:=by omega
  have ih:=fun d l h=>qvv (rec:=rec) hds n m (k+1) d l Gf Gf h;rw [qe5,qae (qac Gf),qap,X7 hlt,qaa,qzy hlt];simp only [qoc,qqo,wrs k Gf];generalize ds[k]=x;rcases qhy x with ⟨b,hb,rfl⟩ | hx
  ·rw [qae (qac Gf),qae (qac Gf),qaj Gf Gf,qaa,qss hb,qaa];cases hd:bat d b with
   | true =>
    obtain ⟨d',l',h1,h2⟩:=ih d l hl;exact ⟨d',l',by rw [← h1];rfl,h2.skip fun c _ e=>(show c=b by omega) ▸ hd⟩
   | false =>
    have hc:=q9j hb hd;obtain ⟨d',l',h1,h2⟩:=ih (d.set b true) (l++[(b:Int)]) (by simp;omega);refine ⟨d',l',?_,h2.push hb hd⟩;simp only [Ap,cond_true,qaa,qc9 hb,qas (a:=l) (b:=[(b:Int)]) (qrg (show l.length≤100 by omega))];exact h1
  ·obtain ⟨d',l',h1,h2⟩:=ih d l hl;refine ⟨d',l',?_,h2.skip fun c hc e=>absurd (show 0≤x∧x<32 by omega) hx⟩;by_cases h0:x≥0
   ·rw [qae (qac h0),qad (qab Gf)];exact h1
   ·rw [qad (qab h0)];exact h1
structure Going (g:GGraph) (s:Nat) (d:Vector Bool 32) (l:List Int):Prop where
 first:bat d s=true
 path:∀ k,bat d k=true→Path (qo1 g) s k
 work:∀ x∈l,∃ b:Nat,b<32∧x=b∧bat d b=true
 closed:∀ a b,bat d a=true→(a:Int)∉l→qo1 g a b→bat d b=true
theorem Going.fin {g:GGraph} {s:Nat} {d:Vector Bool 32} (h:Going g s d []) (k:Nat):bat d k=true↔Path (qo1 g) s k :=
 ⟨h.path k,fun hp=>Path.closed (S:=fun a=>bat d a=true) (fun a b ha he=>h.closed a b ha (by simp) he) hp h.first⟩
open Classical in
noncomputable def qyb (g:GGraph) (s:Nat):Vector Bool 32:=Vector.ofFn fun k=>decide (Path (qo1 g) s k.val)
theorem qst {g:GGraph} {s k:Nat} (hk:k<32):bat (qyb g s) k=true↔Path (qo1 g) s k:=by
 unfold bat qyb;simp [hk]
theorem q1z {g:GGraph} {s:Nat} {d:Vector Bool 32} (h:∀ k,bat d k=true↔Path (qo1 g) s k):d=qyb g s:=by
 refine q9i fun k hk=>?_;rw [Ax,h,qst hk]
theorem zbo {l:List Int} (h:0<l.length):qxm l none (some ((l.length:Int)-1))=some l.dropLast:=by
 unfold qxm qhk;simp only [Bp,Am];rw [if_pos Gf];simp only [Ak,Option.some.injEq];rw [List.dropLast_eq_take,show ((0:Int)).toNat=0 from rfl,Bu];congr 1;omega
theorem qp6 {fu N:Nat} {g:GGraph} (hg:qly g N) (hf:N≤fu) {s:Nat}:∀ (n:Nat) (d:Vector Bool 32) (l:List Int),Going g s d l→l.length+cz d<n→l.length+cz d≤100→qe6 fu g n d l=some (qyb g s)
 | 0,d,l,_,h,_=>absurd h Gf
 | n+1,d,l,hG,hn,hl=>by
  rw [qe6];by_cases h0:l.length=0
  ·have:l=[]:=List.length_eq_zero_iff.1 h0;subst this;rw [qad (qab (by simp)),qaa,q1z hG.fin]
  ·rw [qae (qac Gf),qa3 Gf Gf,show ((l.length:Int)-1)=((l.length-1:Nat):Int) from by omega,qap,List.getElem?_eq_getElem Gf,qaa,
    show (((l.length-1:Nat):Int))=(l.length:Int)-1 from by omega,zbo Gf,qaa]
   have hlast:l=l.dropLast++[l[l.length-1]]:=by
    have h1:=List.dropLast_concat_getLast (l:=l) (by rintro rfl;simp at h0);rw [List.getLast_eq_getElem] at h1;exact h1.symm
   obtain ⟨m,hm,hx,hdm⟩:=hG.work l[l.length-1] (A2 _);rw [hx] at hlast ⊢;generalize hl2:l.dropLast=l2 at hlast ⊢;have hlen:l.length=l2.length+1:=by rw [hlast];simp
   have hmem:∀ x,x∈l→x∈l2∨x=m:=fun x hx=>by
    rw [hlast] at hx;rcases Al.1 hx with h | h
    ·exact .inl h
    ·exact .inr (by simpa using h)
   have hsub:∀ x,x∈l2→x∈l:=fun x hx=>by rw [hlast];exact Bk _ hx
   rw [qaj Gf Gf,qaa,qss hm,qaa];cases hk:bat g.known m with
   | false =>
    rw [qae (by rfl)];refine qp6 hg hf n d l2 ⟨hG.first,hG.path,fun x hx=>hG.work x (hsub x hx),fun a b ha hno he=>?_⟩ Gf Gf
    by_cases e:a=m
    ·subst e;rw [he.2.1] at hk;cases hk
    ·refine hG.closed a b ha (fun hal=>?_) he;rcases hmem _ hal with h1 | h1
     ·exact hno h1
     ·omega
   | true =>
    rw [qad (by rfl),qaa,zeh hm,qaa];obtain ⟨d',l',h1,h2⟩:=qvv (rec:=qe6 fu g n) (hg m).2 fu (qa5 g m).length 0 d l2 Gf (by have:=(hg m).1;omega) Gf;have h1:qe5 (qe6 fu g n) (qa5 g m) fu d l2 0=qe6 fu g n d' l':=h1;rw [h1];rw [Bu] at h2;have hc:=h2.cnt;refine qp6 hg hf n d' l' ⟨h2.keep _ hG.first,fun k hk'=>?_,fun x hx=>?_,fun a b ha hno he=>?_⟩ Gf Gf
    ·rcases h2.only k hk' with h3 | ⟨h3,h4⟩
     ·exact hG.path k h3
     ·rcases h2.new k h4 with h5 | ⟨b,hb,e,_,_⟩
      ·obtain ⟨b,hb,e,hd⟩:=hG.work _ (hsub _ h5);have:k=b:=by omega
       subst this;exact hG.path k hd
      ·have:k=b:=by omega
       subst this;exact .tail (hG.path m hdm) ⟨hm,hk,h3,hb⟩
    ·rcases h2.new x hx with h3 | ⟨b,hb,e,_,hd⟩
     ·obtain ⟨b,hb,e,hd⟩:=hG.work x (hsub x h3);exact ⟨b,hb,e,h2.keep b hd⟩
     ·exact ⟨b,hb,e,hd⟩
    ·by_cases e:a=m
     ·subst e;exact h2.all b he.2.2.2 he.2.2.1
     ·rcases h2.only a ha with h3 | ⟨_,h3⟩
      ·refine h2.keep b (hG.closed a b h3 (fun hal=>?_) he);rcases hmem _ hal with h4 | h4
       ·exact hno (h2.old _ h4)
       ·omega
      ·exact absurd h3 hno
noncomputable def qmi (g:GGraph) (x:Int):Vector Bool 32:=if 0≤x∧x<32 then qyb g x.toNat else Zr.zd
theorem qvw (g:GGraph) {s:Nat} (hs:s<32):Going g s ((Zr.zd:Vector Bool 32).set s true) [(s:Int)]:=by
 have h1:∀ k,bat ((Zr.zd:Vector Bool 32).set s true) k=true↔s=k:=fun k=>by
  rw [qfc hs,quj];by_cases e:s=k<;>simp [e]
 refine ⟨(h1 s).2 rfl,fun k hk=>?_,fun x hx=>?_,fun a b ha hno he=>?_⟩
 ·rw [(h1 k).1 hk];exact .refl _
 ·exact ⟨s,hs,by simpa using hx,(h1 s).2 rfl⟩
 ·have:=(h1 a).1 ha;subst this;exact absurd (by simp) hno
theorem q9l {fu N:Nat} {g:GGraph} (hg:qly g N) (hf:N+40≤fu) (x:Int):q1e fu g x=some (qmi g x):=by
 unfold q1e qmi;rcases qhy x with ⟨s,hs,rfl⟩ | hx
 ·rw [qad (qab Gf),qod,qad (qab Gf),if_pos Gf,qud,qaj Gf Gf,qaa,qss hs,qaa,qc9 hs,qaa,qaa];have hc:=zg3 ((Zr.zd:Vector Bool 32).set s true);exact qp6 hg Gf fu _ _ (qvw g hs) (by simp;omega) (by simp;omega)
 ·rw [if_neg hx];by_cases h0:x<0
  ·rw [qae (qac h0)];rfl
  ·rw [qad (qab h0),qod,qae (qac Gf)];rfl
structure Grown (ds:List Int) (d:Vector Bool 32) (c:Bool) (d':Vector Bool 32) (c':Bool):Prop where
 keep:∀ k,bat d k=true→bat d' k=true
 all:∀ b:Nat,b<32→(b:Int)∈ds→bat d' b=true
 only:∀ k,bat d' k=true→bat d k=true∨((k:Int)∈ds∧k<32)
 same:c'=false→c=false∧d'=d
 less:c'=true→c=true∨cz d'<cz d
theorem Grown.cz {ds:List Int} {d d':Vector Bool 32} {c c':Bool} (h:Grown ds d c d' c'):cz d'≤cz d:=q9k h.keep
theorem qrh {y:Int} {rec:Vector Bool 32→Bool→Int→Option (Vector Bool 32)} {ds:List Int} (hds:ds.length≤17592186043904):∀ (n m k:Nat) (d:Vector Bool 32) (c:Bool),ds.length=k+m→m<n →
 ∃ d' c',qc2 y rec ds n d c k=rec d' c' (Gr (y+1))∧Grown (ds.drop k) d c d' c'
 | 0,m,k,d,c,_,h=>absurd h Gf
 | n+1,0,k,d,c,hk,_=>⟨d,c,by rw [qc2,qad (qab Gf)];rfl,by
  rw [List.drop_of_length_le Gf]
  exact ⟨fun _ h=>h,fun _ _ h=>by simp at h,fun _ h => .inl h,fun h=>⟨h,rfl⟩,fun h => .inl h⟩⟩
 | n+1,m+1,k,d,c,hk,hn=>by
  have hlt:k<ds.length:=by omega
  have ih:=fun d c=>qrh (y:=y) (rec:=rec) hds n m (k+1) d c Gf Gf;rw [qc2,qae (qac Gf),qap,X7 hlt,qaa,qaa,qzy hlt];simp only [qkt,qks,wrs k Gf];generalize ds[k]=x;have skip:∀ {d' c'},(∀ b:Nat,b<32→x=b→bat d b=true)→Grown (ds.drop (k+1)) d c d' c'→Grown (x::ds.drop (k+1)) d c d' c':=fun {d' c'} hx h2 =>
   ⟨h2.keep,fun b hb hm=>by
    rcases Ab.1 hm with e | hm
    ·exact h2.keep b (hx b hb e.symm)
    ·exact h2.all b hb hm,fun j hj=>by
    rcases h2.only j hj with h | h
    ·exact .inl h
    ·exact .inr ⟨X8 _ h.1,h.2⟩,h2.same,h2.less⟩
  rcases qhy x with ⟨b,hb,rfl⟩ | hx
  ·rw [qae (qac Gf),qaj Gf Gf,qaa,qss hb,qaa];cases hd:bat d b with
   | true =>
    obtain ⟨d',c',h1,h2⟩:=ih d c;exact ⟨d',c',by rw [← h1];rfl,skip (fun a _ e=>(show a=b by omega) ▸ hd) h2⟩
   | false =>
    obtain ⟨d',c',h1,h2⟩:=ih (d.set b true) true;have hset:bat (d.set b true) b=true:=by rw [qfc hb,if_pos rfl]
    have hcz:=q9j hb hd;have hcz2:=h2.cz;refine ⟨d',c',?_,⟨fun j hj=>h2.keep j (by rw [qfc hb];split<;>simp [hj]),fun a ha hm=>?_,fun j hj=>?_,fun hc=>?_,fun _ => .inr Gf⟩⟩
    ·simp only [Ap,cond_true,qaa,qc9 hb];exact h1
    ·rcases Ab.1 hm with e | hm
     ·have:a=b:=by omega
      subst this;exact h2.keep a hset
     ·exact h2.all a ha hm
    ·rcases h2.only j hj with h | h
     ·rw [qfc hb] at h;by_cases e:b=j
      ·subst e;exact .inr ⟨Aa,hb⟩
      ·rw [if_neg e] at h;exact .inl h
     ·exact .inr ⟨X8 _ h.1,h.2⟩
    ·have:=(h2.same hc).1;cases this
  ·obtain ⟨d',c',h1,h2⟩:=ih d c;refine ⟨d',c',?_,skip (fun a ha e=>absurd (show 0≤x∧x<32 by omega) hx) h2⟩;rw [qad (qab hx)];exact h1
structure Pass (g:GGraph) (s:Nat) (k:Nat) (d0 d:Vector Bool 32) (c:Bool):Prop where
 keep:∀ j,bat d0 j=true→bat d j=true
 path:∀ j,bat d j=true→Path (qo1 g) s j
 same:c=false→d=d0∧∀ a b,a<k→bat d0 a=true→qo1 g a b→bat d0 b=true
 less:c=true→cz d<cz d0
theorem qri {fu N:Nat} {g:GGraph} (hg:qly g N) (hf:N≤fu) {s:Nat} {rec:Vector Bool 32→Bool→Option (Vector Bool 32)} {d0:Vector Bool 32}:∀ (n m k:Nat) (d:Vector Bool 32) (c:Bool),k+m=32→m<n→Pass g s k d0 d c →
 ∃ d' c',qcc fu g rec n d c k=rec d' c'∧Pass g s 32 d0 d' c'
 | 0,m,k,d,c,_,h,_=>absurd h Gf
 | n+1,0,k,d,c,hk,_,hp=>⟨d,c,by rw [qcc,qad (qab Gf)],by rw [show (32:Nat)=k from by omega];exact hp⟩
 | n+1,m+1,k,d,c,hk,hn,hp=>by
  have hk32:k<32:=by omega
  have ih:=fun d c=>qri (s:=s) hg hf (rec:=rec) (d0:=d0) n m (k+1) d c Gf Gf;have stay:(bat d k=true→bat g.known k=true→False)→Pass g s (k+1) d0 d c:=fun hno =>
   ⟨hp.keep,hp.path,fun hc=>⟨(hp.same hc).1,fun a b ha h0 he=>by
    by_cases e:a=k
    ·subst e
     exact (hno (hp.keep a h0) he.2.1).elim
    ·exact (hp.same hc).2 a b Gf h0 he⟩,hp.less⟩
  rw [qcc,qae (qac Gf),qaj Gf Gf,qaa,qss hk32,qaa];cases hd:bat d k with
  | false =>
   obtain ⟨d',c',h1,h2⟩:=ih d c (stay fun h=>by rw [hd] at h;cases h);refine ⟨d',c',?_,h2⟩;simp only [Bool.not_false,cond_true,qgu,qit,wrs k Gf];exact h1
  | true =>
   rw [qad (by rfl),qaa,qss hk32,qaa];cases hkn:bat g.known k with
   | false =>
    obtain ⟨d',c',h1,h2⟩:=ih d c (stay fun _ h=>by rw [hkn] at h;cases h);refine ⟨d',c',?_,h2⟩;simp only [Bool.not_false,cond_true,qgu,qit,wrs k Gf];exact h1
   | true =>
    obtain ⟨d1,c1,h1,h2⟩:=qrh (y:=(k:Int)) (rec:=qcc fu g rec n) (hg k).2 fu (qa5 g k).length 0 d c Gf (by have:=(hg k).1;omega);have h1:qc2 (k:Int) (qcc fu g rec n) (qa5 g k) fu d c 0=_:=h1;rw [List.drop_zero] at h2;have hpass:Pass g s (k+1) d0 d1 c1:=by
     refine ⟨fun j hj=>h2.keep j (hp.keep j hj),fun j hj=>?_,fun hc=>?_,fun hc=>?_⟩
     ·rcases h2.only j hj with h | h
      ·exact hp.path j h
      ·exact .tail (hp.path k hd) ⟨hk32,hkn,h.1,h.2⟩
     ·obtain ⟨hc0,hdd⟩:=h2.same hc;obtain ⟨e0,hcl⟩:=hp.same hc0;refine ⟨hdd.trans e0,fun a b ha h0 he=>?_⟩;by_cases e:a=k
      ·subst e;have:=h2.all b he.2.2.2 he.2.2.1;rw [hdd,e0] at this;exact this
      ·exact hcl a b Gf h0 he
     ·rcases h2.less hc with h | h
      ·have h3:=hp.less h;have h4:=h2.cz;omega
      ·have h3:=q9k hp.keep;omega
    obtain ⟨d',c',h3,h4⟩:=ih d1 c1 hpass;refine ⟨d',c',?_,h4⟩;simp only [Aj,cond_false,qgu,qof];rw [qaj Gf Gf,qaa,zeh hk32,qaa,h1,wrs k Gf];exact h3
theorem qrj {fu N:Nat} {g:GGraph} (hg:qly g N) (hf:N+40≤fu) {s:Nat}:∀ (n:Nat) (d:Vector Bool 32),bat d s=true→(∀ j,bat d j=true→Path (qo1 g) s j)→cz d+1<n→qc3 fu g n d true=some (qyb g s)
 | 0,d,_,_,h=>absurd h Gf
 | n+1,d,h0,hp,hn=>by
  rw [qc3,qae rfl];obtain ⟨d',c',h1,h2⟩:=qri (s:=s) hg (show N≤fu by omega) (rec:=qc3 fu g n) (d0:=d) fu 32 0 d false Gf Gf
   ⟨fun _ h=>h,hp,fun _=>⟨rfl,fun a b ha=>absurd ha Gf⟩,fun h=>by cases h⟩
  have h1:qcc fu g (qc3 fu g n) fu d false 0=_:=h1;rw [h1];cases c' with
  | true =>
   have:=h2.less rfl;exact qrj hg hf n d' (h2.keep s h0) h2.path Gf
  | false =>
   obtain ⟨rfl,hcl⟩:=h2.same rfl;obtain ⟨n,rfl⟩:∃ q,n=q+1:=⟨n-1,by omega⟩;rw [qc3,qad rfl,qaa];refine congrArg some (q1z fun k=>⟨hp k,fun h=>Path.closed (S:=fun a=>bat d' a=true) (fun a b ha he=>hcl a b he.1 ha he) h h0⟩)
theorem qvx {fu N:Nat} {g:GGraph} (hg:qly g N) (hf:N+40≤fu) (x:Int):qog fu g x=some (qmi g x):=by
 unfold qog qmi;rw [qaa];rcases qhy x with ⟨s,hs,rfl⟩ | hx
 ·rw [qac (show (0:Int)≤s∧(s:Int)<32 by omega),qad (c := !true) rfl,if_pos Gf,qaj Gf Gf,qaa,qss hs,qaa,qc9 hs,qaa,qaa];have hG:=qvw g hs;have hc:=zg3 ((Zr.zd:Vector Bool 32).set s true);exact qrj hg hf fu _ hG.first hG.path Gf
 ·rw [qab hx,qae (c := !false) rfl,if_neg hx,qaa]
def qos (g:GGraph) (d:Vector Bool 32) (k:Nat):Prop:=∀ j,k≤j→j<32→bat d j=true→bat g.known j=true
open Classical in
noncomputable def qj5 (g:GGraph) (x:Int):Bool:=decide ((0≤x∧x<32)∧∀ j,j<32→bat (qmi g x) j=true→bat g.known j=true)
theorem qvy {g:GGraph} {d:Vector Bool 32}:∀ (n m k:Nat),k+m=32→m<n→∃ b,qf2 g d n k=some b∧(b=true↔qos g d k)
 | 0,m,k,_,h=>absurd h Gf
 | n+1,0,k,hk,_=>⟨true,by rw [qf2,qad (qab Gf)],by simp only [true_iff];intro j h1 h2;omega⟩
 | n+1,m+1,k,hk,hn=>by
  have hk32:k<32:=by omega
  obtain ⟨b,h1,h2⟩:=qvy (g:=g) (d:=d) n m (k+1) Gf Gf;rw [qf2,qae (qac Gf),qss hk32,qaa];simp only [qqp,que,wrs k Gf];have step:(bat d k=true→bat g.known k=true)→(b=true↔qos g d k):=fun hs=>by
   rw [h2];constructor
   ·intro h j hj;by_cases e:j=k
    ·subst e;intro _;exact hs
    ·exact h j Gf
   ·intro h j hj;exact h j Gf
  cases hd:bat d k with
  | false=>exact ⟨b,h1,step fun h=>by rw [hd] at h;cases h⟩
  | true =>
   rw [qae rfl,qaj Gf Gf,qaa,qss hk32,qaa];cases hkn:bat g.known k with
   | true=>exact ⟨b,h1,step fun _=>hkn⟩
   | false =>
    refine ⟨false,rfl,?_⟩;simp only [Bc,false_iff];intro h;have:=h k (Ai _) hk32 hd;rw [hkn] at this;cases this
theorem qrk {g:GGraph} {x:Int} {d:Vector Bool 32}:∀ (n m k:Nat),k+m=32→m<n→∃ b,qc4 g x d n k=some b∧(b=true↔(0≤x∧x<32)∧qos g d k)
 | 0,m,k,_,h=>absurd h Gf
 | n+1,0,k,hk,_=>⟨decide (0≤x∧x<32),by rw [qc4,qad (qab Gf),qaa],by
  simp only [decide_eq_true_eq]
  exact ⟨fun h=>⟨h,fun j h1 h2=>by omega⟩,fun h=>h.1⟩⟩
 | n+1,m+1,k,hk,hn=>by
  have hk32:k<32:=by omega
  obtain ⟨b,h1,h2⟩:=qrk (g:=g) (x:=x) (d:=d) n m (k+1) Gf Gf;rw [qc4,qae (qac Gf),qss hk32,qaa];simp only [qku,qoh,wrs k Gf];have step:(bat d k=true→bat g.known k=true)→(b=true↔(0≤x∧x<32)∧qos g d k):=fun hs=>by
   rw [h2];refine and_congr_right fun _=>?_;constructor
   ·intro h j hj;by_cases e:j=k
    ·subst e;intro _;exact hs
    ·exact h j Gf
   ·intro h j hj;exact h j Gf
  cases hd:bat d k with
  | false=>exact ⟨b,h1,step fun h=>by rw [hd] at h;cases h⟩
  | true =>
   rw [qae rfl,qaj Gf Gf,qaa,qss hk32,qaa];cases hkn:bat g.known k with
   | true=>exact ⟨b,h1,step fun _=>hkn⟩
   | false =>
    refine ⟨false,rfl,?_⟩;simp only [Bc,false_iff];intro h;have:=h.2 k (Ai _) hk32 hd;rw [hkn] at this;cases this
theorem readyZ_iff {g:GGraph} {x:Int}:qj5 g x=true↔(0≤x∧x<32)∧qos g (qmi g x) 0:=by
 unfold qj5 qos;simp
theorem q9m {fu N:Nat} {g:GGraph} (hg:qly g N) (hf:N+40≤fu) (x:Int):q1f fu g x=some (qj5 g x):=by
 unfold q1f;rcases qhy x with ⟨s,hs,rfl⟩ | hx
 ·rw [qad (qab Gf),qoe,qad (qab Gf),quf,q9l hg hf,qaa];obtain ⟨b,h1,h2⟩:=qvy (g:=g) (d:=qmi g s) fu 32 0 Gf Gf;have h1:qf2 g (qmi g s) fu 0=some b:=h1;rw [h1];congr 1;rw [Ax,h2,readyZ_iff];simp;omega
 ·have:qj5 g x=false:=by
   cases h:qj5 g x with
   | false=>rfl
   | true=>exact absurd (readyZ_iff.1 h).1 hx
  rw [this];by_cases h0:x<0
  ·rw [qae (qac h0)];rfl
  ·rw [qad (qab h0),qoe,qae (qac Gf)]
theorem q37 {fu N:Nat} {g:GGraph} (hg:qly g N) (hf:N+40≤fu) (x:Int):qqs fu g x=some (qj5 g x):=by
 unfold qqs;rw [qvx hg hf,qaa];obtain ⟨b,h1,h2⟩:=qrk (g:=g) (x:=x) (d:=qmi g x) fu 32 0 Gf Gf;have h1:qc4 g x (qmi g x) fu 0=some b:=h1;rw [h1];congr 1;rw [Ax,h2,readyZ_iff]
abbrev Bz := @List.drop_of_length_le
abbrev E9 := @Int.min_eq_left
abbrev E3 := @Int.min_eq_right
def iat (v:Vector Int 32) (k:Nat):Int:=v[k]?.getD 0
theorem q6u {v:Vector Int 32} {k:Nat} (hk:k<32):qam v (k:Int)=some (iat v k):=by rw [qsr hk];simp [iat,hk]
theorem qvz {v:Vector Int 32} {k j:Nat} {x:Int} (hk:k<32):iat (v.set k x) j=if k=j then x else iat v j:=by
 unfold iat;by_cases hj:j<32
 ·simp only [Vector.getElem?_set];by_cases e:k=j
  ·subst e;simp
  ·simp [e]
 ·have hkj:k≠j:=by omega
  simp [hj,hkj]
theorem qzz (k:Nat):iat (Zr.zd:Vector Int 32) k=0:=by
 show iat (Vector.replicate 32 0) k=0;unfold iat;by_cases hk:k<32<;>simp [hk]
def DE (g:GGraph) (a b:Nat):Prop:=a<32∧(b:Int)∈qa5 g a∧b<32
structure Abs (x:GSearch) (l:List Int) (t:Srch):Prop where
 mark:∀ k,k<32→iat x.mark_ k=(t.mark k:Int)
 low:∀ k,k<32→iat x.low k=(t.low k:Int)
 ring:∀ k,k<32→iat x.ring k=(t.ring k:Int)
 on:∀ k,k<32→bat x.on_ k=decide (k∈t.stack)
 stack:l=t.stack.map fun k=>((k:Nat):Int)
 next:x.next=(t.next:Int)
theorem LI.sub {E:Nat→Nat→Prop} {s t:Srch} {G:List Nat} {n:Nat} {ds ds':Nat→Prop} (h:LI E s G n t ds) (hs:∀ d,ds' d→ds d):LI E s G n t ds' :=
 ⟨h.was,h.white,h.inv,h.ext,h.nmark,h.low_le,h.low_or,h.stack,fun d hd=>h.proc d (hs d hd)⟩
def VOk (g:GGraph) (fu n:Nat):Prop:=∀ (x:GSearch) (l:List Int) (t:Srch) (G:List Nat) (m:Nat),x.g=g→Abs x l t→Inv (DE g) t G→t.mark m=0→m<32→(∀ a∈G,Path (DE g) a m)→wh t.mark≤n →
 ∃ x' l' t',qln fu n x l m=some (x',l')∧x'.g=g∧Abs x' l' t'∧Post (DE g) t t' m G
theorem q10 {E:Nat→Nat→Prop} {s:Srch} {G:List Nat} (h:Inv E s G):s.stack.length≤32:=by
 refine qnl 32 s.stack ?_ fun x hx=>h.lt x (h.pos x hx);rw [Ep];refine h.sorted.imp fun {a b} hab=>?_;rintro rfl;omega
theorem qlz {a b:Nat} (h:(a:Int)=b):a=b:=by omega
theorem qv0 {l:List Int} {y174:Int} {r:Nat} (C:List Nat) (hC:∀ c∈C,c<32) (hlen:C.length≤32):∀ (n m k:Nat) (x:GSearch),C.length=k+m→m<n →
 ∃ x':GSearch,qf3 l y174 r (C.map fun c=>((c:Nat):Int)) n x k=((qxm l none (some y174)).bind fun l2=>some ({ x' with stack:=Hole.mk },l2))∧x'.g=x.g∧x'.mark_=x.mark_∧x'.low=x.low∧x'.next=x.next ∧
  (∀ j,iat x'.ring j=if j∈C.drop k then (r:Int) else iat x.ring j)∧(∀ j,bat x'.on_ j=if j∈C.drop k then false else bat x.on_ j)
 | 0,m,k,x,_,h=>absurd h Gf
 | n+1,0,k,x,hk,_=>by
  refine ⟨x,?_,rfl,rfl,rfl,rfl,fun j=>?_,fun j=>?_⟩
  ·rw [qf3,qad (qab (by simp;omega))];rfl
  ·rw [Bz Gf];simp
  ·rw [Bz Gf];simp
 | n+1,m+1,k,x,hk,hn=>by
  have hlt:k<C.length:=by omega
  have hc:=hC C[k] (A2 _);obtain ⟨x',h1,h2,h3,h4,h5,h6,h7⟩:=qv0 (l:=l) (y174:=y174) (r:=r) C hC hlen n m (k+1) { x with ring:=x.ring.set C[k] (r:Int),on_:=x.on_.set C[k] false } Gf Gf;refine ⟨x',?_,h2,h3,h4,h5,fun j=>?_,fun j=>?_⟩
  ·rw [qf3,qae (qac (by simp;omega)),qap,A5,X7 hlt];simp only [Ak,qaa,qaj (show (0:Int)≤((C[k]:Nat):Int) by omega) (show ((C[k]:Nat):Int)<32 by omega),q6u hc,qss hc,qc9 hc,wrs k (show k≤17592186043904 by omega)];exact h1
  ·rw [h6 j,Ad hlt];show (if j∈C.drop (k+1) then (r:Int) else iat (x.ring.set C[k] (r:Int)) j)=_;rw [qvz hc];simp only [Ab];by_cases e:C[k]=j
   ·rw [if_pos e,if_pos (show j=C[k]∨j∈C.drop (k+1) from .inl e.symm)];split<;>rfl
   ·have e2:¬ j=C[k]:=fun h=>e h.symm;rw [if_neg e];simp only [e2,false_or]
  ·rw [h7 j,Ad hlt];show (if j∈C.drop (k+1) then false else bat (x.on_.set C[k] false) j)=_;rw [qfc hc];simp only [Ab];by_cases e:C[k]=j
   ·rw [if_pos e,if_pos (show j=C[k]∨j∈C.drop (k+1) from .inl e.symm)];split<;>rfl
   ·have e2:¬ j=C[k]:=fun h=>e h.symm;rw [if_neg e];simp only [e2,false_or]
theorem qv1 {fu:Nat} {x:GSearch} {l l2:List Int} {y174:Int} (hcut:qxm l (some y174) none=some l2) (C:List Nat) (hlen:C.length≤32):∀ (n m k r:Nat),C.length=k+m→m<n→r∈C→(∀ i v,i<k→C[i]? = some v→r≤v) →
 ∃ r':Nat,qf4 fu x l y174 (C.map fun c=>((c:Nat):Int)) n r k=qf3 l y174 (r':Int) l2 fu x 0∧r'∈C∧∀ v∈C,r'≤v
 | 0,m,k,r,_,h,_,_=>absurd h Gf
 | n+1,0,k,r,hk,_,hr,hmin=>by
  refine ⟨r,?_,hr,fun v hv=>?_⟩
  ·rw [qf4,qad (qab (by simp;omega)),hcut,qaa]
  ·obtain ⟨i,hi,rfl⟩:=List.getElem_of_mem hv;exact hmin i _ Gf (List.getElem?_eq_getElem hi)
 | n+1,m+1,k,r,hk,hn,hr,hmin=>by
  have hlt:k<C.length:=by omega
  have hmn:min (r:Int) (C[k]:Int)=((min r C[k]:Nat):Int):=by
   by_cases h:r≤C[k]
   ·rw [Dp h,E9 Gf]
   ·rw [Dk Gf,E3 Gf]
  obtain ⟨r',h1,h2,h3⟩:=qv1 (fu:=fu) (x:=x) hcut C hlen n m (k+1) (min r C[k]) Gf Gf (by
   by_cases h:r≤C[k]
   ·rw [Dp h];exact hr
   ·rw [Dk Gf];exact A2 _) (fun i v hi hv=>by
   by_cases e:i=k
   ·subst e
    rw [X7 hlt] at hv
    cases hv
    exact E2 _ _
   ·exact A1 (Df _ _) (hmin i v Gf hv))
  refine ⟨r',?_,h2,h3⟩;rw [qf4,qae (qac (by simp;omega)),qap,A5,X7 hlt];simp only [Ak,qaa];rw [hmn,wrs k Gf];exact h1
theorem qv2 {fu:Nat} {x:GSearch} {S:List Nat} {m p:Nat} (hlen:S.length≤32) (hp:S[p]? = some m) (hno:∀ i,p<i→S[i]? ≠ some m):∀ (n d:Nat),d<n→p+d<S.length →
 qil fu m x (S.map fun c=>((c:Nat):Int)) n ((p+d:Nat):Int)=(qxm (S.map fun c=>((c:Nat):Int)) (some (p:Int)) none).bind fun l2=>qf4 fu x (S.map fun c=>((c:Nat):Int)) p l2 fu m 0
 | 0,d,h,_=>absurd h Gf
 | n+1,0,_,hd=>by
  rw [qil,qap,List.getElem?_map,Nat.add_zero,hp];simp only [Option.map_some,qaa];rw [qad (by simp)]
 | n+1,d+1,hn,hd=>by
  have ih:=qv2 (fu:=fu) (x:=x) hlen hp hno n d Gf Gf;have hlt:p+(d+1)<S.length:=hd;have hne:=hno (p+(d+1)) Gf;rw [X7 hlt] at hne;rw [qil,qap,A5,X7 hlt];simp only [Ak,qaa];rw [qae (by simp only [bne_iff_ne,ne_eq];exact fun h=>hne (by rw [qlz h])),qa3 Gf Gf,show (((p+(d+1):Nat):Int)-1)=((p+d:Nat):Int) from by omega];exact ih
theorem q11 {α : Type} {l:List α} {p:Nat} (hp:p≤l.length):qxm l (some (p:Int)) none=some (l.drop p):=by
 unfold qxm qhk;simp only [Am,Bp];rw [if_pos Gf];simp
theorem q12 {α : Type} {l:List α} {p:Nat} (hp:p≤l.length):qxm l none (some (p:Int))=some (l.take p):=by
 unfold qxm qhk;simp only [Am,Bp];rw [if_pos Gf];simp
theorem q9n {fu n:Nat} (hfu:40≤fu) {g:GGraph} {x:GSearch} {l:List Int} {s t:Srch} {G:List Nat} {m:Nat} {ds:Nat→Prop} (hm:m<32) (hg:x.g=g) (hA:Abs x l t) (h:LI (DE g) s G m t ds) (hall:∀ d,DE g m d→ds d) {rec0:GSearch→List Int→Int→Option (GSearch × List Int)} {xs:List Int} {k:Int} (hk:¬ k<(xs.length:Int)) :
 ∃ x' l' t',qf5 fu m rec0 xs (n+1) x l k=some (x',l')∧x'.g=g∧Abs x' l' t'∧Post (DE g) s t' m G:=by
 rw [qf5,qad (qab hk),qaj Gf Gf,qaa,q6u hm,qaa,qaa,q6u hm,qaa,hA.low m hm,hA.mark m hm];by_cases hlow:t.low m=t.mark m
 ·rw [qad (by simp [hlow])];obtain ⟨new,hst,hnew⟩:=h.stack;have hlen:=q10 h.inv;have hsl:t.stack.length=s.stack.length+(new.length+1):=by rw [hst];simp
  have hp:t.stack[s.stack.length]? = some m:=by rw [hst];simp
  have hno:∀ i,s.stack.length<i→t.stack[i]? ≠ some m:=fun i hi he=>by
   obtain ⟨h1,h2⟩:=X6.1 he;obtain ⟨h3,h4⟩:=X6.1 hp;have:=Bg.1 h.inv.sorted s.stack.length i h3 h1 hi;rw [h2,h4] at this;omega
  have hlm:l=t.stack.map fun c=>((c:Nat):Int):=hA.stack;subst hlm;have e1:=qv2 (fu:=fu) (x:=x) (S:=t.stack) (m:=m) (p:=s.stack.length) hlen hp hno fu new.length Gf Gf;have e0:Gr (((t.stack.map fun c=>((c:Nat):Int)).length:Int)-1)=((s.stack.length+new.length:Nat):Int):=by
   rw [B0,qa3 Gf Gf];omega
  have hcut:qxm (t.stack.map fun c=>((c:Nat):Int)) (some (s.stack.length:Int)) none=some ((m::new).map fun c=>((c:Nat):Int)):=by
   rw [q11 (by rw [B0];omega),hst,← Gd,En]
  have hC:∀ c∈m::new,c<32:=fun c hc=>h.inv.lt c (h.inv.pos c (by rw [hst];exact B2 _ hc));have hCl:(m::new).length≤32:=by rw [Ah];omega
  rw [e0,e1,hcut,qaa];obtain ⟨r,h3,h4,h5⟩:=qv1 (fu:=fu) (x:=x) hcut (m::new) hCl fu (m::new).length 0 m Gf Gf Aa (fun i v hi=>by omega);have h3:qf4 fu x (t.stack.map fun c=>((c:Nat):Int)) (s.stack.length:Int) ((m::new).map fun c=>((c:Nat):Int)) fu m 0=_:=h3;rw [h3];obtain ⟨x',k1,k2,k3,k4,k5,k6,k7⟩:=qv0 (l:=t.stack.map fun c=>((c:Nat):Int)) (y174:=(s.stack.length:Int)) (r:=r) (m::new) hC hCl fu (m::new).length 0 x Gf Gf;have k1:qf3 (t.stack.map fun c=>((c:Nat):Int)) (s.stack.length:Int) r ((m::new).map fun c=>((c:Nat):Int)) fu x 0=_:=k1;rw [k1,q12 (by rw [B0];omega),qaa];rw [Bu] at k6 k7;refine ⟨_,_,{ t with ring:=fun v=>if v∈m::new then r else t.ring v,stack:=s.stack },rfl,k2.trans hg,⟨fun j hj=>?_,fun j hj=>?_,fun j hj=>?_,fun j hj=>?_,?_,?_⟩,?_⟩
  ·show iat x'.mark_ j=_;rw [k3];exact hA.mark j hj
  ·show iat x'.low j=_;rw [k4];exact hA.low j hj
  ·show iat x'.ring j=((if j∈m::new then r else t.ring j:Nat):Int);rw [k6 j,hA.ring j hj];split<;>rfl
  ·show bat x'.on_ j=decide (j∈s.stack);rw [k7 j,hA.on j hj,hst];by_cases hj2:j∈m::new
   ·rw [if_pos hj2];symm;rw [decide_eq_false_iff_not];intro hs;have:=h.new hst hj2;have:=h.old hs;omega
   ·rw [if_neg hj2];congr 1;rw [Al];simp [hj2]
  ·show (t.stack.map fun c=>((c:Nat):Int)).take s.stack.length=_;rw [hst,Bv,List.take_left' (by simp)]
  ·show x'.next=_;rw [k5];exact hA.next
  ·exact h.pop hall hlow hst (fun v hv=>if_pos hv) (fun v hv=>if_neg hv) h4 h5
 ·rw [qae (by simp only [bne_iff_ne,ne_eq];exact fun e=>hlow (qlz e))];exact ⟨x,l,t,rfl,hg,hA,h.keep hall hlow⟩
theorem qv3 {fu n N:Nat} {g:GGraph} (hN:qly g N) (hfu:N+40≤fu) (hV:VOk g fu n) {s:Srch} {G:List Nat} {m:Nat} (hm:m<32) (hwh:wh s.mark≤n+1):∀ (q r k:Nat) (x:GSearch) (l:List Int) (t:Srch),(qa5 g m).length=k+r→r<q→x.g=g→Abs x l t →
 LI (DE g) s G m t (fun d=>d<32∧(d:Int)∈(qa5 g m).take k)→∃ x' l' t',qf5 fu m (qln fu n) (qa5 g m) q x l k=some (x',l')∧x'.g=g∧Abs x' l' t'∧Post (DE g) s t' m G
 | 0,r,k,x,l,t,_,h,_,_,_=>absurd h Gf
 | q+1,0,k,x,l,t,hk,_,hg,hA,hL=>q9n Gf hm hg hA hL (fun d hd=>⟨hd.2.2,by rw [List.take_of_length_le Gf];exact hd.2.1⟩) Gf
 | q+1,r+1,k,x,l,t,hk,hq,hg,hA,hL=>by
  have hlt:k<(qa5 g m).length:=by omega
  have hlen:=(hN m).2;have ih:=fun x l t h1 h2 h3=>qv3 (s:=s) (G:=G) hN hfu hV hm hwh q r (k+1) x l t Gf Gf h1 h2 h3;have htake:(qa5 g m).take (k+1)=(qa5 g m).take k++[(qa5 g m)[k]]:=List.take_succ_eq_append_getElem hlt;have hmem:(qa5 g m)[k]∈qa5 g m:=List.getElem_mem _;rw [qf5,qae (qac Gf),qap,List.getElem?_eq_getElem hlt,qaa];simp only [qqq,qlm,wrs k Gf];rw [htake] at ih;generalize (qa5 g m)[k]=y at ih hmem ⊢;rcases qhy y with ⟨d,hd,rfl⟩ | hy
  ·have hset:∀ v:Nat,(v<32∧(v:Int)∈(qa5 g m).take k++[(d:Int)])→((v<32∧(v:Int)∈(qa5 g m).take k)∨v=d):=fun v ⟨h1,h2⟩=>by
    rcases List.mem_append.1 h2 with h3 | h3
    ·exact .inl ⟨h1,h3⟩
    ·exact .inr (qlz (by simpa using h3))
   have hE:DE g m d:=⟨hm,hmem,hd⟩;rw [qad (qab Gf),qad (qab Gf),qaj Gf Gf,qaa,q6u hd,qaa,hA.mark d hd];by_cases h0:t.mark d=0
   ·rw [qae (by simp [h0])];have hmm:m∈t.stack:=by obtain ⟨new,hst,_⟩:=hL.stack;rw [hst];simp
    have hw2:wh t.mark≤n:=by
     have h1:=qzw (x:=1) hm hL.white Gf;have h2:wh t.mark≤wh (qo7 s.mark m 1):=zdt fun v hv=>by
      by_cases e:v=m
      ·subst e;rw [hL.nmark];omega
      ·rw [qdv _ _ e] at hv;rw [hL.ext.mark_old v hv];exact hv
     omega
    obtain ⟨x',l',t',h1,h2,h3,h4⟩:=hV x l t (m::G) d hg hA hL.inv h0 hd (fun a ha=>by
     rcases Ab.1 ha with rfl | ha
     ·exact Path.one hE
     ·have h5:=hL.old (hL.was.gray a ha)
      exact (hL.inv.reach a (X8 _ ha) m hmm Gf).tail hE) hw2
    rw [h1,qaa];simp only;simp only [qaj (show (0:Int)≤(m:Int) by omega) (show (m:Int)<32 by omega),q6u hm,q6u hd,qc9 hm,qaa];have hL2:=(hL.visit h0 hE h4).sub hset;refine ih _ _ { t' with low:=qo7 t'.low m (min (t'.low m) (t'.low d)) } h2 ⟨h3.mark,fun j hj=>?_,h3.ring,h3.on,h3.stack,h3.next⟩ hL2;show iat (x'.low.set m _) j=((qo7 t'.low m (min (t'.low m) (t'.low d)) j:Nat):Int);rw [qvz hm,h3.low m hm,h3.low d hd];by_cases e:m=j
    ·subst e;rw [if_pos rfl,qe1];by_cases h:t'.low m≤t'.low d
     ·rw [Dp h,E9 Gf]
     ·rw [Dk Gf,E3 Gf]
    ·rw [if_neg e,qdv _ _ (fun h=>e h.symm)];exact h3.low j hj
   ·rw [qad (by simp;omega),qaa,qss hd,qaa,hA.on d hd];by_cases hs:d∈t.stack
    ·rw [qae (qac hs)];simp only [qaj (show (0:Int)≤(m:Int) by omega) (show (m:Int)<32 by omega),q6u hm,qc9 hm,qaa];have hL2:=(hL.on hs hE).sub hset;refine ih _ _ { t with low:=qo7 t.low m (min (t.low m) (t.mark d)) } hg ⟨hA.mark,fun j hj=>?_,hA.ring,hA.on,hA.stack,hA.next⟩ hL2;show iat (x.low.set m _) j=((qo7 t.low m (min (t.low m) (t.mark d)) j:Nat):Int);rw [qvz hm,hA.low m hm];by_cases e:m=j
     ·subst e;rw [if_pos rfl,qe1];by_cases h:t.low m≤t.mark d
      ·rw [Dp h,E9 Gf]
      ·rw [Dk Gf,E3 Gf]
     ·rw [if_neg e,qdv _ _ (fun h=>e h.symm)];exact hA.low j hj
    ·rw [qad (qab hs)];exact ih _ _ _ hg hA ((hL.skip Gf hs).sub hset)
  ·have hset:∀ v:Nat,(v<32∧(v:Int)∈(qa5 g m).take k++[y])→(v<32∧(v:Int)∈(qa5 g m).take k):=fun v ⟨h1,h2⟩=>by
    rcases Al.1 h2 with h3 | h3
    ·exact ⟨h1,h3⟩
    ·have:(v:Int)=y:=by simpa using h3
     exact absurd (show 0≤y∧y<32 by omega) hy
   have:=ih x l t hg hA (hL.sub hset);by_cases h0:y<0
   ·rw [qae (qac h0)];exact this
   ·rw [qad (qab h0),qae (qac Gf)];exact this
theorem qth {fu N:Nat} {g:GGraph} (hN:qly g N) (hfu:N+40≤fu):∀ n,VOk g fu n
 | 0=>fun x l t G m _ _ _ h0 hm _ hw=>by
  have:=qzw (x:=1) hm h0 Gf;omega
 | n+1=>fun x l t G m hg hA hI h0 hm hG hw=>by
  have hc:=hI.cnt;have hw1:=qzw (x:=1) hm h0 Gf;have hn:Gr (x.next+1)=((t.next+1:Nat):Int):=by rw [hA.next,qa3 Gf Gf];omega
  have hsl:=q10 hI;have hll:l.length=t.stack.length:=by rw [hA.stack];simp
  have hin:inR (m:Int) 32=some ():=qaj Gf Gf;have happ:app l [(m:Int)]=some (l++[(m:Int)]):=qas (a:=l) (b:=[(m:Int)]) (qrg (show l.length≤100 by omega));rw [qln];simp only [qaa,hin,q6u hm,hn,qc9 hm,happ,qss hm];rw [hg,zeh hm,qaa];have hL:=LI.start hI hm h0 hG;refine qv3 hN hfu (qth hN hfu n) hm hw fu (qa5 g m).length 0 _ _ (q1w t m) Gf (by have:=(hN m).1;omega) rfl ⟨fun j hj=>?_,fun j hj=>?_,hA.ring,fun j hj=>?_,?_,rfl⟩ (hL.sub fun d hd=>by simp at hd)
  ·show iat (x.mark_.set m _) j=((qo7 t.mark m (t.next+1) j:Nat):Int);rw [qvz hm];by_cases e:m=j
   ·subst e;rw [if_pos rfl,qe1]
   ·rw [if_neg e,qdv _ _ (fun h=>e h.symm)];exact hA.mark j hj
  ·show iat (x.low.set m _) j=((qo7 t.low m (t.next+1) j:Nat):Int);rw [qvz hm];by_cases e:m=j
   ·subst e;rw [if_pos rfl,qe1]
   ·rw [if_neg e,qdv _ _ (fun h=>e h.symm)];exact hA.low j hj
  ·show bat (x.on_.set m true) j=decide (j∈t.stack++[m]);rw [qfc hm,hA.on j hj];by_cases e:m=j
   ·subst e;simp
   ·have e2:¬ j=m:=fun h=>e h.symm;simp [e,e2]
  ·show l++[(m:Int)]=(t.stack++[m]).map _;rw [hA.stack];simp
theorem q9o {fu N:Nat} {g:GGraph} (hN:qly g N) (hfu:N+40≤fu) {m:Nat} (hm:m<32):∃ x' l',q83 fu { g:=g,mark_:=Zr.zd,low:=Zr.zd,on_:=Zr.zd,stack:=Zr.zd,ring:=Zr.zd,next:=Zr.zd } [] m=some (x',l')∧x'.g=g ∧
 (∀ k,k<32→(0<iat x'.mark_ k↔Path (DE g) m k))∧(∀ k,k<32→0≤iat x'.mark_ k)∧∀ k,k<32→Path (DE g) m k→∃ r:Nat,iat x'.ring k=r∧qzv (DE g) k r:=by
 let t0:Srch:=⟨fun _=>0,fun _=>0,fun _=>0,[],0⟩;have hI:Inv (DE g) t0 []:=Inv.empty (fun _=>rfl) rfl rfl;have hw:wh t0.mark≤fu:=by have:=hI.cnt;omega
 obtain ⟨x',l',t',h1,h2,h3,h4⟩:=qth hN hfu fu { g:=g,mark_:=Zr.zd,low:=Zr.zd,on_:=Zr.zd,stack:=Zr.zd,ring:=Zr.zd,next:=Zr.zd } [] t0 [] m rfl
  ⟨fun k _=>qzz k,fun k _=>qzz k,fun k _=>qzz k,fun k _=>by rw [quj];rfl,rfl,rfl⟩ hI rfl hm (by simp) hw
 obtain ⟨h5,h6⟩:=h4.final fun _=>rfl;refine ⟨x',l',h1,h2,fun k hk=>?_,fun k hk=>?_,fun k hk hp=>⟨t'.ring k,h3.ring k hk,h6 k hp⟩⟩
 ·rw [h3.mark k hk,← h5 k];omega
 ·rw [h3.mark k hk];omega
open Classical in
noncomputable def qat (g:GGraph) (a b:Nat):Bool:=decide (Path (qo1 g) a b)
theorem pathB_iff {g:GGraph} {a b:Nat}:qat g a b=true↔Path (qo1 g) a b:=by simp [qat]
theorem qhz (g:GGraph):Pre (qat g) :=
 ⟨fun a _=>pathB_iff.2 (.refl a),fun a b c h1 h2=>pathB_iff.2 ((pathB_iff.1 h1).trans (pathB_iff.1 h2)),fun a b ha h=>qzx (pathB_iff.1 h) ha⟩
noncomputable def qyc (g:GGraph) (x:Int):List Int:=if qj5 g x=true then (q5k (qat g) x.toNat).map (fun k=>((k:Nat):Int)) else []
def qa8 (l:List Nat):List Int:=l.map fun k=>((k:Nat):Int)
theorem qh0 (l:List Nat):(qa8 l).length=l.length:=by simp [qa8]
theorem qyd (l:List Nat) (k:Nat):qa8 l++[(k:Int)]=qa8 (l++[k]):=by simp [qa8]
theorem q9p {l:List Nat} {k:Nat}:(k:Int)∈qa8 l↔k∈l:=by
 unfold qa8;rw [Em];constructor
 ·rintro ⟨a,ha,e⟩;have:a=k:=qlz e;subst this;exact ha
 ·exact fun h=>⟨k,h,rfl⟩
theorem qsu {l:List Nat} {k:Nat}:qcx (qa8 l) (k:Int)=decide (k∈l):=by
 rw [Ax,decide_eq_true_eq,← q9p];unfold qcx;simp
structure Rings (g:GGraph) (n:Nat) (x:GSearch):Prop where
 same:x.g=g
 known:∀ k,qat g n k=true→bat g.known k=true
 mark:∀ k,k<32→(0<iat x.mark_ k↔qat g n k=true)
 nonneg:∀ k,k<32→0≤iat x.mark_ k
 ring:∀ k,k<32→qat g n k=true→∃ r:Nat,iat x.ring k=r∧qzv (qo1 g) k r
theorem qjr {g:GGraph} {n:Nat} (hk:∀ k,qat g n k=true→bat g.known k=true) {a b:Nat} (ha:qat g n a=true):Path (DE g) a b↔Path (qo1 g) a b:=by
 constructor
 ·intro h
  induction h with
  | refl=>exact .refl _
  | tail _ e ih=>exact ih.tail ⟨e.1,hk _ (pathB_iff.2 ((pathB_iff.1 ha).trans ih)),e.2.1,e.2.2⟩
 ·intro h
  induction h with
  | refl=>exact .refl _
  | tail _ e ih=>exact ih.tail ⟨e.1,e.2.2.1,e.2.2.2⟩
theorem qsv {E:Nat→Nat→Prop} {u v r q:Nat} (hr:qzv E u r) (hq:qzv E v q) (h1:Path E u v) (h2:Path E v u):r=q:=by
 have a:=hr.2.2 q (h1.trans hq.1) (hq.2.1.trans h2);have b:=hq.2.2 r (h2.trans hr.1) (hr.2.1.trans h1);omega
section
variable {g:GGraph} {n:Nat} {x:GSearch} {out:List Nat} {placed:Vector Bool 32}
theorem Rings.least (h:Rings g n x) (hn:n<32) {k:Nat} (hk:qat g n k=true) {r:Nat} (hr:iat x.ring k=r):qzv (qo1 g) k r:=by
 obtain ⟨q,h1,h2⟩:=h.ring k (qzx (pathB_iff.1 hk) hn) hk;rw [hr] at h1;rw [qlz h1];exact h2
def zjm (g:GGraph) (x:GSearch) (y:Int) (placed:Vector Bool 32) (k:Nat):Prop:=∀ m,k≤m→m<32→iat x.mark_ m≠0→iat x.ring m=y→∀ d:Nat,d<32→(d:Int)∈qa5 g m→iat x.ring d≠y→bat placed d=true
theorem qye {y9:Int} {y:Int} {rec:Int→Option Bool} {ds:List Int} (hds:ds.length≤17592186043904):∀ (q r k:Nat),ds.length=k+r→r<q →
 (qd7 x y placed y9 rec ds q k=rec (Gr (y9+1))∧∀ d:Nat,d<32→(d:Int)∈ds.drop k→iat x.ring d≠y→bat placed d=true) ∨
 (qd7 x y placed y9 rec ds q k=some false∧∃ d:Nat,d<32∧(d:Int)∈ds.drop k∧iat x.ring d≠y∧bat placed d=false)
 | 0,r,k,_,h=>absurd h Gf
 | q+1,0,k,hk,_=>by
  left;refine ⟨by rw [qd7,qad (qab Gf)];rfl,fun d _ hm=>?_⟩;rw [List.drop_of_length_le Gf] at hm;simp at hm
 | q+1,r+1,k,hk,hq=>by
  have hlt:k<ds.length:=by omega
  have ih:=qye (y9:=y9) (y:=y) (rec:=rec) hds q r (k+1) Gf Gf;rw [qd7,qae (qac Gf),qap,X7 hlt,qaa,qzy hlt];simp only [qp0,qzn,wrs k Gf];generalize ds[k]=z;have more:(∀ d:Nat,d<32→z=(d:Int)→iat x.ring d≠y→bat placed d=true) →
   (qd7 x y placed y9 rec ds q ((k+1:Nat):Int)=rec (Gr (y9+1))∧∀ d:Nat,d<32→(d:Int)∈z::ds.drop (k+1)→iat x.ring d≠y→bat placed d=true) ∨
   (qd7 x y placed y9 rec ds q ((k+1:Nat):Int)=some false∧∃ d:Nat,d<32∧(d:Int)∈z::ds.drop (k+1)∧iat x.ring d≠y∧bat placed d=false):=fun hz=>by
   rcases ih with ⟨h1,h2⟩ | ⟨h1,d,h2,h3,h4,h5⟩
   ·refine .inl ⟨h1,fun d hd hm hr=>?_⟩
    rcases Ab.1 hm with e | hm
    ·exact hz d hd e.symm hr
    ·exact h2 d hd hm hr
   ·exact .inr ⟨h1,d,h2,X8 _ h3,h4,h5⟩
  rcases qhy z with ⟨d,hd,rfl⟩ | hz
  ·rw [qae (qac Gf),qae (qac Gf),qaj Gf Gf,qaa,q6u hd,qaa];by_cases hr:iat x.ring d=y
   ·rw [qad (by simp [hr])];exact more fun c _ e hne=>by
     have:d=c:=qlz e;subst this;exact absurd hr hne
   ·rw [qae (by simp [hr]),qaa,qss hd,qaa];cases hp:bat placed d with
    | true =>
     exact more fun c _ e _=>by
      have:d=c:=qlz e;subst this;exact hp
    | false=>exact .inr ⟨rfl,d,hd,Aa,hr,hp⟩
  ·have:=more fun d hd e _=>absurd (show 0≤z∧z<32 by omega) hz;by_cases h0:z≥0
   ·rw [qae (qac h0),qad (qab Gf)];exact this
   ·rw [qad (qab h0)];exact this
theorem qyf {fu N:Nat} (hN:qly g N) (hfu:N≤fu) (hg:x.g=g) {y:Int}:∀ (q r k:Nat),k+r=32→r<q→∃ b,qgt fu x y placed q k=some b∧(b=true↔zjm g x y placed k)
 | 0,r,k,_,h=>absurd h Gf
 | q+1,0,k,hk,_=>⟨true,by rw [qgt,qad (qab Gf)],by simp only [true_iff];intro m h1 h2;omega⟩
 | q+1,r+1,k,hk,hq=>by
  have hk32:k<32:=by omega
  obtain ⟨b,h1,h2⟩:=qyf hN hfu hg q r (k+1) Gf Gf;have step:(iat x.mark_ k≠0→iat x.ring k=y→∀ d:Nat,d<32→(d:Int)∈qa5 g k→iat x.ring d≠y→bat placed d=true)→(b=true↔zjm g x y placed k):=fun hs=>by
   rw [h2];constructor
   ·intro h m hm;by_cases e:m=k
    ·subst e;intro _;exact hs
    ·exact h m Gf
   ·intro h m hm;exact h m Gf
  rw [qgt,qae (qac Gf),qaj Gf Gf,qaa,q6u hk32,qaa];simp only [qvc,qvb,wrs k Gf];by_cases h0:iat x.mark_ k=0
  ·rw [qae (by simp [h0])];exact ⟨b,h1,step fun h=>absurd h0 h⟩
  ·rw [qad (by simp [h0]),qaa,q6u hk32,qaa];by_cases hr:iat x.ring k=y
   ·rw [qad (by simp [hr]),qzo,qaj Gf Gf,qaa,hg,zeh hk32,qaa];have:=qye (x:=x) (placed:=placed) (y9:=(k:Int)) (y:=y) (rec:=qgt fu x y placed q) (hN k).2 fu (qa5 g k).length 0 Gf (by have:=(hN k).1;omega);rw [Bu,wrs k Gf] at this;rcases this with ⟨h3,h4⟩ | ⟨h3,d,hd,h4,h5,h6⟩
    ·have h3:qd7 x y placed (k:Int) (qgt fu x y placed q) (qa5 g k) fu 0=_:=h3;exact ⟨b,by rw [h3];exact h1,step fun _ _=>h4⟩
    ·have h3:qd7 x y placed (k:Int) (qgt fu x y placed q) (qa5 g k) fu 0=_:=h3;refine ⟨false,h3,?_⟩;simp only [Bc,false_iff];intro hf;have:=hf k (Ai _) hk32 h0 hr d hd h4 h5;rw [h6] at this;cases this
   ·rw [qae (by simp [hr])];exact ⟨b,h1,step fun _ h=>absurd h hr⟩
def Test (g:GGraph) (n:Nat) (x:GSearch) (out:List Nat) (placed:Vector Bool 32) (y:Nat):Prop:=qat g n y=true∧y∉out∧iat x.ring y=(y:Int)∧zjm g x y placed 0
theorem Test.cand (hR:Rings g n x) (hn:n<32) (hO:OKO (qat g) n out) (hP:∀ k,k<32→bat placed k=decide (k∈out)) {y:Nat} (h:Test g n x out placed y):qkf (qat g) n out y=true:=by
 obtain ⟨h1,h2,h3,h4⟩:=h;have hpre:=qhz g;have hy32:=hpre.lt _ _ hn h1;rw [candO_iff];refine ⟨h1,h2,fun d hd hyd=>?_⟩;have hcl:∀ a b,((qat g y a=true∧qat g a y=true)∨a∈out)→qo1 g a b→((qat g y b=true∧qat g b y=true)∨b∈out):=by
  intro a b ha hab;rcases ha with ⟨ha1,ha2⟩ | ha
  ·have hyb:=hpre.trans _ _ _ ha1 (pathB_iff.2 (Path.one hab));cases hby:qat g b y with
   | true=>exact .inl ⟨hyb,rfl⟩
   | false =>
    right;have hna:=hpre.trans _ _ _ h1 ha1;have ha32:=hpre.lt _ _ hn hna;obtain ⟨r,hr1,hr2⟩:=hR.ring a ha32 hna;have hra:iat x.ring a=(y:Int):=by
     rw [hr1,qsv hr2 (hR.least hn h1 h3) (pathB_iff.1 ha2) (pathB_iff.1 ha1)]
    have hma:iat x.mark_ a≠0:=by have:=(hR.mark a ha32).2 hna;omega
    have hnb:=hpre.trans _ _ _ h1 hyb;have hrb:iat x.ring b≠(y:Int):=fun e=>by
     have:=(hR.least hn hnb e).1;rw [pathB_iff.2 this] at hby;cases hby
    have:=h4 a (Ao _) ha32 hma hra b hab.2.2.2 hab.2.2.1 hrb;rw [hP b hab.2.2.2] at this;simpa using this
  ·exact .inr (hO.dc a ha b (pathB_iff.2 (Path.one hab)))
 have:=Path.closed (S:=fun a=>(qat g y a=true∧qat g a y=true)∨a∈out) hcl (pathB_iff.1 hyd) (.inl ⟨hpre.refl y hy32,hpre.refl y hy32⟩);rcases this with h5 | h5
 ·exact .inl h5.2
 ·exact .inr h5
theorem Test.of_next (hR:Rings g n x) (hn:n<32) (hO:OKO (qat g) n out) (hP:∀ k,k<32→bat placed k=decide (k∈out)) {c:Nat} (h:qjq (qat g) n out=some c):Test g n x out placed c:=by
 have hpre:=qhz g;obtain ⟨hc32,hcand,hmin⟩:=qg6 h;have hcand':=candO_iff.1 hcand;obtain ⟨h1,h2,h3⟩:=hcand';obtain ⟨r,hr1,hr2⟩:=hR.ring c hc32 h1;have hcr:qat g c r=true:=pathB_iff.2 hr2.1;have hrc:qat g r c=true:=pathB_iff.2 hr2.2.1;have hrle:r≤c:=hr2.2.2 c (.refl _) (.refl _);have hr:r=c:=by
  rcases Dw r c with hlt | hge
  ·have hno:=hmin r hlt;have hy:qkf (qat g) n out r=true:=by
    rw [candO_iff];refine ⟨hpre.trans _ _ _ h1 hcr,fun hro=>h2 (hO.dc r hro c hrc),fun d hd hrd=>?_⟩
    ·rcases h3 d hd (hpre.trans _ _ _ hcr hrd) with h4 | h4
     ·exact .inl (hpre.trans _ _ _ h4 hcr)
     ·exact .inr h4
   rw [hy] at hno;cases hno
  ·omega
 subst hr;refine ⟨h1,h2,hr1,fun a _ ha32 hma hra d hd hmd hrd=>?_⟩;have hna:=(hR.mark a ha32).1 (by have:=hR.nonneg a ha32;omega);have hl:=hR.least hn hna hra;have had:qat g a d=true:=pathB_iff.2 (Path.one ⟨ha32,hR.known a hna,hmd,hd⟩);have hcd:=hpre.trans _ _ _ (pathB_iff.2 hl.2.1) had;rw [hP d hd];rcases h3 d hd hcd with h4 | h4
 ·exfalso;have hnd:=hpre.trans _ _ _ h1 hcd;obtain ⟨q,hq1,hq2⟩:=hR.ring d hd hnd;refine hrd ?_;rw [hq1,qsv hq2 hr2 (pathB_iff.1 h4) (pathB_iff.1 hcd)]
 ·exact qac h4
def zg4:Option Nat→Int
 | some a=>a
 | none => -1
def quk (placed:Vector Bool 32) (out:List Nat):Prop:=∀ k,k<32→bat placed k=decide (k∈out)
theorem zbp (hR:Rings g n x) (hn:n<32) {c:Nat} (hc:qat g n c=true) (hrc:iat x.ring c=(c:Int)) {k:Nat} (hk:k<32):(0<iat x.mark_ k∧iat x.ring k=(c:Int))↔(qat g c k=true∧qat g k c=true):=by
 have hpre:=qhz g;constructor
 ·rintro ⟨h1,h2⟩;have hl:=hR.least hn ((hR.mark k hk).1 h1) h2;exact ⟨pathB_iff.2 hl.2.1,pathB_iff.2 hl.1⟩
 ·rintro ⟨h1,h2⟩;have hnk:=hpre.trans _ _ _ hc h1;refine ⟨(hR.mark k hk).2 hnk,?_⟩;obtain ⟨r,hr1,hr2⟩:=hR.ring k hk hnk;rw [hr1,qsv hr2 (hR.least hn hc hrc) (pathB_iff.1 h2) (pathB_iff.1 h1)]
theorem qti {rec:Vector Bool 32→GSearch→List Int→Option (List Int)} (hR:Rings g n x) (hn:n<32) {c:Nat} (hc:qat g n c=true) (hrc:iat x.ring c=(c:Int)):∀ (q r k:Nat) (placed:Vector Bool 32) (o:List Nat),k+r=32→r<q→o.length≤k+32 →
 quk placed o→∃ placed',qdp rec x (c:Int) q placed (qa8 o) k=rec placed' x (qa8 (o++((List.range 32).drop k).filter fun m=>qat g c m&&qat g m c))∧quk placed' (o++((List.range 32).drop k).filter fun m=>qat g c m&&qat g m c)
 | 0,r,k,placed,o,_,h,_,_=>absurd h Gf
 | q+1,0,k,placed,o,hk,_,_,hP=>⟨placed,by
  rw [qdp,qad (qab Gf),List.drop_of_length_le (by simp;omega),List.filter_nil,List.append_nil],by
  rw [List.drop_of_length_le (by simp;omega),List.filter_nil,List.append_nil];exact hP⟩
 | q+1,r+1,k,placed,o,hk,hq,ho,hP=>by
  have hk32:k<32:=by omega
  have ih:=fun placed o h1 h2=>qti (rec:=rec) hR hn hc hrc q r (k+1) placed o Gf Gf h1 h2;have hmem:=zbp hR hn hc hrc hk32;have hdrop:(List.range 32).drop k=k::(List.range 32).drop (k+1):=by
   rw [Ad (by simp;omega)];simp
  rw [qdp,qae (qac Gf),hdrop,Ei];simp only [qaj (show (0:Int)≤(k:Int) by omega) (show (k:Int)<32 by omega),qaa,q6u hk32,qmy,qmx,wrs k Gf];have hno:¬ (0<iat x.mark_ k∧iat x.ring k=(c:Int))→(qat g c k&&qat g k c)=false:=fun h=>by
   cases h1:(qat g c k&&qat g k c) with
   | false=>rfl
   | true=>exact absurd (hmem.2 (by simpa using h1)) h
  by_cases h1:0<iat x.mark_ k
  ·rw [qae (qac h1)];by_cases h2:iat x.ring k=(c:Int)
   ·have h3:=hmem.1 ⟨h1,h2⟩;rw [qae (by simp [h2]),qss hk32];simp only [qaa,qc9 hk32];rw [qas (a:=qa8 o) (b:=[(k:Int)]) (qrg (show (qa8 o).length≤100 by rw [qh0];omega)),qaa,qyd,h3.1,h3.2];obtain ⟨p',e1,e2⟩:=ih (placed.set k true) (o++[k]) (by simp;omega) (fun j hj=>by
     rw [qfc hk32,hP j hj]
     by_cases e:k=j
     ·subst e;simp
     ·have e2:¬ j=k:=fun h=>e h.symm
      simp [e,e2])
    refine ⟨p',?_,?_⟩
    ·rw [e1];simp
    ·simpa using e2
   ·rw [qad (by simp [h2]),hno (fun h=>h2 h.2)];exact ih placed o Gf hP
  ·rw [qad (qab h1),qad rfl,hno (fun h=>h1 h.1)];exact ih placed o Gf hP
theorem qtj {fu N:Nat} (hN:qly g N) (hfu:N+40≤fu) {rec:Vector Bool 32→GSearch→List Int→Option (List Int)} (hR:Rings g n x) (hn:n<32) (hO:OKO (qat g) n out) (hP:quk placed out):∀ (q r k:Nat),k+r=32→r<q→(∀ j,j<k→qkf (qat g) n out j=true→qjq (qat g) n out≠some j) →
 qc0 fu placed (qa8 out) rec q x (-1) k=qkr fu placed (qa8 out) rec x (zg4 (qjq (qat g) n out))
 | 0,r,k,_,h,_=>absurd h Gf
 | q+1,0,k,hk,_,hno=>by
  rw [qc0,qad (qab Gf)];cases hc:qjq (qat g) n out with
  | none=>rfl
  | some c =>
   have:=qg6 hc;exact absurd hc (hno c Gf this.2.1)
 | q+1,r+1,k,hk,hq,hno=>by
  have hk32:k<32:=by omega
  have ih:=fun h=>qtj hN hfu (rec:=rec) hR hn hO hP q r (k+1) Gf Gf h;have step:¬ Test g n x out placed k→(∀ j,j<k+1→qkf (qat g) n out j=true→qjq (qat g) n out≠some j):=fun ht j hj hcj he=>by
   by_cases e:j=k
   ·subst e;exact ht (Test.of_next hR hn hO hP he)
   ·exact hno j Gf hcj he
  rw [qc0,qae (qac Gf)];simp only [qaj (show (0:Int)≤(k:Int) by omega) (show (k:Int)<32 by omega),qaa,q6u hk32,qss hk32,qjg,qqr,wrs k Gf];by_cases h1:0<iat x.mark_ k
  ·have hnk:=(hR.mark k hk32).1 h1;rw [qae (qac h1),hP k hk32];by_cases h2:k∈out
   ·rw [qac h2,qad (c := !true) rfl];exact ih (step fun ht=>ht.2.1 h2)
   ·rw [qab h2,qae (c := !false) rfl];by_cases h3:iat x.ring k=(k:Int)
    ·rw [qae (by simp [h3])];obtain ⟨b,h4,h5⟩:=qyf (placed:=placed) hN (show N≤fu by omega) hR.same (y:=(k:Int)) fu 32 0 Gf Gf;have h4:zbg fu x (k:Int) placed=some b:=h4;rw [h4,qaa];cases hb:b with
     | true =>
      rw [qae rfl];have ht:Test g n x out placed k:=⟨hnk,h2,h3,h5.1 hb⟩;have hcand:=ht.cand hR hn hO hP;have hnext:qjq (qat g) n out=some k:=by
       cases hc:qjq (qat g) n out with
       | none=>rw [nextO_none.1 hc k hk32] at hcand;cases hcand
       | some c =>
        obtain ⟨c1,c2,c3⟩:=qg6 hc;rcases Nat.lt_trichotomy c k with h | h | h
        ·exact absurd hc (hno c h c2)
        ·rw [h]
        ·rw [c3 k h] at hcand;cases hcand
      rw [hnext];rfl
     | false =>
      rw [qad rfl];refine ih (step fun ht=>?_);rw [h5.2 ht.2.2.2] at hb;cases hb
    ·rw [qad (by simp [h3]),qad rfl];exact ih (step fun ht=>h3 ht.2.2.1)
  ·rw [qad (qab h1),qad rfl];exact ih (step fun ht=>h1 ((hR.mark k hk32).2 ht.1))
theorem qtk {fu N:Nat} (hN:qly g N) (hfu:N+40≤fu) (hR:Rings g n x) (hn:n<32):∀ (q k:Nat) (out:List Nat) (placed:Vector Bool 32),OKO (qat g) n out→quk placed out→k<q→32≤k+out.length →
 qc1 fu q placed x (qa8 out)=some (qa8 (qmh (qat g) n k out))
 | 0,k,out,placed,_,_,h,_=>absurd h Gf
 | q+1,k,out,placed,hO,hP,hq,hk=>by
  have hpre:=qhz g;have h3:=qtj hN hfu (rec:=qc1 fu q) hR hn hO hP fu 32 0 Gf Gf (fun j hj=>absurd hj Gf);have h3:qc0 fu placed (qa8 out) (qc1 fu q) fu x (-1) 0=_:=h3;rw [qc1,h3,qkr];cases hc:qjq (qat g) n out with
  | none =>
   rw [qae (by rfl)];cases k with
   | zero=>rfl
   | succ k=>simp [qmh,hc]
  | some c =>
   obtain ⟨hc32,hcand,_⟩:=qg6 hc;have ht:=Test.of_next hR hn hO hP hc;have hle:=hO.len;show (bif decide ((c:Int)<0) then _ else _)=_;rw [qad (qab Gf)];obtain ⟨p',e1,e2⟩:=qti (rec:=qc1 fu q) hR hn ht.1 ht.2.2.1 fu 32 0 placed out Gf Gf Gf hP;have e1:qdp (qc1 fu q) x (c:Int) fu placed (qa8 out) 0=_:=e1;show qdp (qc1 fu q) x (c:Int) fu placed (qa8 out) 0=_;rw [e1];rw [Bu] at e2 ⊢;have hstep:=hO.step hpre hn hc;have hlen:=Ea (qsq hpre hc32);cases k with
   | zero=>rw [hO.full Gf] at hc;cases hc
   | succ k =>
    have:=qtk hN hfu hR hn q k (out++q1x (qat g) c) p' hstep e2 Gf (by rw [Ac];omega);rw [qmh,hc];exact this
end
theorem q13 {g:GGraph} {s:Nat} (hs:s<32) (h:qj5 g (s:Int)=true):∀ k,qat g s k=true→bat g.known k=true:=by
 intro k hk;have h1:=(readyZ_iff.1 h).2 k (Ao _) (qzx (pathB_iff.1 hk) hs);refine h1 ?_;unfold qmi;rw [if_pos Gf];exact (qst (qzx (pathB_iff.1 hk) hs)).2 (pathB_iff.1 hk)
theorem q6v {fu N:Nat} {g:GGraph} (hN:qly g N) (hfu:N+80≤fu) (x:Int):qvd fu g x=some (qyc g x):=by
 unfold qvd qyc;rw [q9m hN Gf,qaa];cases hr:qj5 g x with
 | false=>rw [qae (c := !false) rfl,if_neg (by simp)]
 | true =>
  rw [qad (c := !true) rfl,if_pos rfl,qaa];obtain ⟨hx,_⟩:=readyZ_iff.1 hr;obtain ⟨s,hs,rfl⟩:∃ s:Nat,s<32∧x=s:=⟨x.toNat,by omega,by omega⟩;have hkn:=q13 hs hr;obtain ⟨x',l',h1,h2,h3,h4,h5⟩:=q9o hN (show N+40≤fu by omega) hs;rw [h1,qaa];have hself:qat g s s=true:=(qhz g).refl s hs;have hR:Rings g s x':=⟨h2,hkn,fun k hk=>by rw [h3 k hk,qjr hkn hself,pathB_iff],h4,fun k hk hp=>by
   obtain ⟨r,e1,e2,e3,e4⟩:=h5 k hk ((qjr hkn hself).2 (pathB_iff.1 hp))
   have hnr:qat g s r=true:=pathB_iff.2 ((pathB_iff.1 hp).trans ((qjr hkn hp).1 e2))
   refine ⟨r,e1,(qjr hkn hp).1 e2,(qjr hkn hnr).1 e3,fun w hw1 hw2=>e4 w ((qjr hkn hp).2 hw1) ?_⟩
   exact (qjr hkn (pathB_iff.2 ((pathB_iff.1 hp).trans hw1))).2 hw2⟩
  exact qtk hN Gf hR hs fu 32 [] (Zr.zd:Vector Bool 32) OKO.nil (fun k _=>by rw [quj];simp) Gf (by simp)
section
variable {g:GGraph} {n:Nat} {out:List Nat} {R:Vector (Vector Bool 32) 32}
theorem zg5 {m:Nat} (hm:m<32):qam R (m:Int)=some R[m]:=qsr hm
def qz0 (g:GGraph) (R:Vector (Vector Bool 32) 32):Prop:=∀ m (h:m<32),∀ d,d<32→bat R[m] d=qat g m d
theorem qrl (hR:qz0 g R) {y59:Int} {rec:Int→Int→Option (List Int)} {m:Nat} (hm:m<32):∀ (q r k:Nat) (c:Bool),k+r=32→r<q →
 qcd R (qa8 out) y59 m rec q c k=rec (bif (c&&((List.range 32).drop k).all fun d => !qat g m d||(qat g d m||out.contains d)) then (m:Int) else y59) (Gr ((m:Int)-1))
 | 0,r,k,c,_,h=>absurd h Gf
 | q+1,0,k,c,hk,_=>by
  rw [qcd,qad (qab Gf),List.drop_of_length_le (by simp;omega)];cases c<;>rfl
 | q+1,r+1,k,c,hk,hq=>by
  have hk32:k<32:=by omega
  have ih:=fun c=>qrl hR (y59:=y59) (rec:=rec) hm q r (k+1) c Gf Gf;have hdrop:(List.range 32).drop k=k::(List.range 32).drop (k+1):=by
   rw [Ad (by simp;omega)];simp
  rw [qcd,qae (qac Gf),hdrop,Dj];have i1:inR (k:Int) 32=some ():=qaj Gf Gf;have i2:inR (m:Int) 32=some ():=qaj Gf Gf;simp only [qgv,wrs k Gf,i1,i2,qaa,zg5 hm,zg5 hk32,qss hk32,qss hm,hR m hm k hk32,hR k hk32 m hm,qsu,ih];cases c with
  | false=>rfl
  | true =>
   cases hp:qat g m k with
   | false=>rfl
   | true =>
    cases hq:qat g k m with
    | true=>rfl
    | false =>
     simp only [Aj,cond_false,cond_true,Bi,Aq,List.contains_eq_mem]
theorem qrm (hR:qz0 g R) (hn:n<32) {fu:Nat} (hfu:40≤fu) {rec:List Int→Option (List Int)}:∀ (q k:Nat) (c:Option Nat),k≤32→k<q→(∀ a,c=some a→k≤a∧a<32∧qkf (qat g) n out a=true∧∀ j,k≤j→j<a→qkf (qat g) n out j=false)→(c=none→∀ j,k≤j→j<32→qkf (qat g) n out j=false) →
 qb0 fu n R (qa8 out) rec q (zg4 c) ((k:Int)-1) =
  match qjq (qat g) n out with | none=>some (qa8 out) | some a=>qbz R rec a fu (qa8 out) 0
 | 0,k,c,_,h,_,_=>absurd h Gf
 | q+1,0,c,_,_,hs,hnn=>by
  rw [qb0,qad (qab Gf)];cases c with
  | none =>
   rw [nextO_none.2 fun j hj=>hnn rfl j Gf hj];rw [qae (by rfl)];rfl
  | some a =>
   obtain ⟨_,h1,h2,h3⟩:=hs a rfl;rw [zbn h1 h2 fun j hj=>h3 j Gf hj];show (bif decide ((a:Int)<0) then _ else _)=_;rw [qad (qab Gf)];rfl
 | q+1,k+1,c,hk,hq,hs,hnn=>by
  have hk32:k<32:=by omega
  have e0:(((k+1:Nat):Int)-1)=(k:Int):=by omega
  have e1:Gr ((k:Int)-1)=(k:Int)-1:=qa3 Gf Gf;have ih:=fun c h1 h2=>qrm hR hn hfu (rec:=rec) q k c Gf Gf h1 h2;have i1:inR (k:Int) 32=some ():=qaj Gf Gf;have i2:inR (n:Int) 32=some ():=qaj Gf Gf;rw [e0,qb0,qae (qac Gf)];simp only [i1,i2,qaa,zg5 hn,qss hk32,hR n hn k hk32,qsu,qkw,qiu,qoi,e1];have hno:qkf (qat g) n out k=false→qb0 fu n R (qa8 out) rec q (zg4 c) ((k:Int)-1) =
   match qjq (qat g) n out with | none=>some (qa8 out) | some a=>qbz R rec a fu (qa8 out) 0:=fun hc=>by
   refine ih c (fun a ha=>?_) (fun hcn j hj hj2=>?_)
   ·obtain ⟨h1,h2,h3,h4⟩:=hs a ha
    refine ⟨by omega,h2,h3,fun j hj hj2=>?_⟩
    by_cases e:j=k
    ·subst e;exact hc
    ·exact h4 j Gf hj2
   ·by_cases e:j=k
    ·subst e;exact hc
    ·exact hnn hcn j Gf hj2
  cases hp:qat g n k with
  | false =>
   rw [qae (c := !false) rfl,qae rfl];exact hno (by simp [qkf,hp])
  | true =>
   rw [qad (c := !true) rfl];by_cases hm:k∈out
   ·rw [qac hm,qae rfl];exact hno (by simp [qkf,hm])
   ·rw [qab hm,qad rfl];have h4:=qrl (out:=out) hR (y59:=(zg4 c)) (rec:=qb0 fu n R (qa8 out) rec q) hk32 fu 32 0 true Gf Gf;have h4:qcd R (qa8 out) (zg4 c) (k:Int) (qb0 fu n R (qa8 out) rec q) fu true 0=_:=h4;rw [h4,e1,List.drop_zero,Bool.true_and];have hcand:qkf (qat g) n out k=(List.range 32).all fun d => !qat g k d||(qat g d k||out.contains d):=by
     unfold qkf;rw [hp];simp [hm]
    cases hall:(List.range 32).all fun d => !qat g k d||(qat g d k||out.contains d) with
    | false =>
     rw [qad rfl];exact hno (by rw [hcand,hall])
    | true =>
     rw [qae rfl];refine ih (some k) (fun a ha=>?_) (fun h=>by cases h);cases ha;exact ⟨Ai _,hk32,by rw [hcand,hall],fun j hj hj2=>by omega⟩
theorem qrn (hR:qz0 g R) {rec:List Int→Option (List Int)} {c:Nat} (hc:c<32):∀ (q r k:Nat) (o:List Nat),k+r=32→r<q→o.length≤k+32 →
 qbz R rec c q (qa8 o) k=rec (qa8 (o++((List.range 32).drop k).filter fun m=>qat g c m&&qat g m c))
 | 0,r,k,o,_,h,_=>absurd h Gf
 | q+1,0,k,o,hk,_,_=>by
  rw [qbz,qad (qab Gf),List.drop_of_length_le (by simp;omega),List.filter_nil,List.append_nil]
 | q+1,r+1,k,o,hk,hq,ho=>by
  have hk32:k<32:=by omega
  have ih:=fun o h=>qrn hR (rec:=rec) hc q r (k+1) o Gf Gf h;have hdrop:(List.range 32).drop k=k::(List.range 32).drop (k+1):=by
   rw [Ad (by simp;omega)];simp
  have i1:inR (k:Int) 32=some ():=qaj Gf Gf;have i2:inR (c:Int) 32=some ():=qaj Gf Gf;rw [qbz,qae (qac Gf),hdrop,Ei];simp only [i1,i2,qaa,zg5 hc,zg5 hk32,qss hk32,qss hc,hR c hc k hk32,hR k hk32 c hc,qky,qkx,wrs k Gf];have i0:=ih o Gf;have i3:=ih (o++[k]) (by simp;omega);cases qat g k c<;>cases qat g c k
  ·exact i0
  ·exact i0
  ·exact i0
  ·simp only [cond_true,Bool.and_self,if_true];rw [qas (a:=qa8 o) (b:=[(k:Int)]) (qrg (show (qa8 o).length≤100 by rw [qh0];omega)),qaa,qyd,i3];simp
theorem qro (hR:qz0 g R) (hn:n<32) {fu:Nat} (hfu:40≤fu):∀ (q k:Nat) (out:List Nat),OKO (qat g) n out→k<q→32≤k+out.length→qce fu n R q (qa8 out)=some (qa8 (qmh (qat g) n k out))
 | 0,k,out,_,h,_=>absurd h Gf
 | q+1,k,out,hO,hq,hk=>by
  have hpre:=qhz g;rw [qce,qh0];by_cases hl:out.length<32
  ·rw [qae (qac Gf)];have h3:=qrm (out:=out) hR hn hfu (rec:=qce fu n R q) fu 32 none Gf Gf (fun a h=>by cases h) (fun _ j h1 h2=>by omega);have h3:qb0 fu n R (qa8 out) (qce fu n R q) fu (-1) 31=_:=h3;rw [h3];obtain ⟨k,rfl⟩:∃ a,k=a+1:=⟨k-1,by omega⟩;rw [qmh];cases hc:qjq (qat g) n out with
   | none=>rfl
   | some c =>
    obtain ⟨hc32,hcand,_⟩:=qg6 hc;have hstep:=hO.step hpre hn hc;have hlen:=Ea (qsq hpre hc32);have h5:=qrn hR (rec:=qce fu n R q) hc32 fu 32 0 out Gf Gf Gf;have h5:qbz R (qce fu n R q) (c:Int) fu (qa8 out) 0=_:=h5;show qbz R (qce fu n R q) (c:Int) fu (qa8 out) 0=some (qa8 (qmh (qat g) n k (out++q1x (qat g) c)));rw [h5,Bu];exact qro hR hn hfu q k (out++q1x (qat g) c) hstep Gf (by rw [Ac];omega)
  ·rw [qad (qab Gf)];have hfull:=hO.full Gf;cases k with
   | zero=>rfl
   | succ k=>simp [qmh,hfull,qkv]
end
theorem qrp {fu N:Nat} {g:GGraph} (hN:qly g N) (hfu:N+40≤fu) {s:Nat} (hs:s<32):∀ (q r k:Nat) (R:Vector (Vector Bool 32) 32),k+r=32→r<q→(∀ m (h:m<32),m<k→∀ d,d<32→bat R[m] d=qat g m d) →
 qel fu g s q R k=some (qa8 (q5k (qat g) s))
 | 0,r,k,R,_,h,_=>absurd h Gf
 | q+1,0,k,R,hk,_,hR=>by
  rw [qel,qad (qab Gf)];exact qro (fun m h d hd=>hR m h Gf d hd) hs Gf fu 32 [] OKO.nil Gf (by simp)
 | q+1,r+1,k,R,hk,hq,hR=>by
  have hk32:k<32:=by omega
  rw [qel,qae (qac Gf),qvx hN hfu,qaa,qaj Gf Gf,qaa,qsr hk32,qaa,qc9 hk32,qaa,qaa,wrs k Gf];refine qrp hN hfu hs q r (k+1) _ Gf Gf fun m h hm d hd=>?_;rw [Et];by_cases e:k=m
  ·subst e;rw [if_pos rfl];unfold qmi;rw [if_pos Gf,Ax,qst hd,pathB_iff];rfl
  ·rw [if_neg e];exact hR m h Gf d hd
theorem q38 {fu N:Nat} {g:GGraph} (hN:qly g N) (hfu:N+80≤fu) (x:Int):qqt fu g x=some (qyc g x):=by
 unfold qqt qyc;rw [q37 hN Gf,qaa];cases hr:qj5 g x with
 | false=>rw [qae (c := !false) rfl,if_neg (by simp)]
 | true =>
  rw [qad (c := !true) rfl,if_pos rfl];obtain ⟨hx,_⟩:=readyZ_iff.1 hr;obtain ⟨s,hs,rfl⟩:∃ s:Nat,s<32∧x=s:=⟨x.toNat,by omega,by omega⟩;exact qrp hN Gf hs fu 32 0 _ Gf Gf fun m h hm=>absurd hm Gf
abbrev Da := @Bool.false_and
abbrev Ge := @Bool.or_false
theorem qrq {a:List GOp} (ha:a.length≤9000000000000000):∀ (n m k:Nat),a.length=k+m→m<n→qek a a n k=some true
 | 0,m,k,_,h=>absurd h Gf
 | n+1,0,k,hk,_=>by rw [qek,qad (qab Gf)]
 | n+1,m+1,k,hk,hn=>by
  obtain ⟨x,hx⟩:∃ x,a[k]? = some x:=⟨a[k],by simp⟩;have:=qrq ha n m (k+1) Gf Gf;rw [qek,qae (qac Gf),qap,hx,qaa,qaa,qad (by simp),qa3 Gf Gf];simpa using this
theorem qrr {a:List GOp} {fu:Nat} (ha:a.length≤9000000000000000) (hf:a.length<fu):qij fu a a=some true:=by
 rw [qij,qad (by simp)];exact qrq ha fu a.length 0 Gf hf
theorem qtl {a:List GOp} {fu:Nat} (hf:0<fu):qij fu a []=some ((a.length:Int)==0):=by
 obtain ⟨fu,rfl⟩:∃ n,fu=n+1:=⟨fu-1,by omega⟩;unfold qij;cases a with
 | nil=>rfl
 | cons o t =>
  rw [qae (by simp;omega)];congr 1
def qdz (c:GCase):Bool :=
 bif c.begun then qak c.ops&&qan c.deps
 else !c.fixed&&((c.ops.length:Int)==0&&((c.deps.length:Int)==0&&(decide (c.told=(Zr.zd:Vector Bool 6))&&(decide (c.known=(Zr.zd:Vector Bool 6))&&(decide (c.has=(Zr.zd:Vector Bool 4))&&decide (c.values=(Zr.zd:Vector Int 4)))))))
theorem qnm {fu:Nat} (c:GCase):qjd fu c=some (qdz c):=by
 unfold qjd qdz qcv qjc;simp only [qaa];cases c.begun
 ·generalize (!c.fixed)=b1;generalize ((c.ops.length:Int)==0)=b2;generalize ((c.deps.length:Int)==0)=b3;generalize decide (c.told=(Zr.zd:Vector Bool 6))=b4;generalize decide (c.known=(Zr.zd:Vector Bool 6))=b5;generalize decide (c.has=(Zr.zd:Vector Bool 4))=b6;cases b1<;>cases b2<;>cases b3<;>cases b4<;>cases b5<;>cases b6<;>rfl
 ·generalize qak c.ops=b1;cases b1<;>rfl
theorem q14 (l:List Int):qkm l []=((l.length:Int)==0):=by
 cases l with
 | nil=>rfl
 | cons a t =>
  rw [show ((((a::t).length:Nat):Int)==0)=false from by simp;omega];unfold qkm;simp
theorem qsw {fu:Nat} (hf:0<fu) (c:GCase):qpz fu c=some (qdz c):=by
 unfold qpz qje qmv qb3 qdz;simp only [qaa];rw [show (Zr.zd:List GOp)=[] from rfl,show (Zr.zd:List Int)=[] from rfl,show (Zr.zd:Bool)=false from rfl,qtl hf,q14];simp only [qaa];cases c.begun
 ·rw [show (c.fixed==false) = !c.fixed from by cases c.fixed<;>rfl];generalize (!c.fixed)=b1;generalize ((c.ops.length:Int)==0)=b2;generalize ((c.deps.length:Int)==0)=b3;generalize decide (c.told=(Zr.zd:Vector Bool 6))=b4;generalize decide (c.known=(Zr.zd:Vector Bool 6))=b5;generalize decide (c.has=(Zr.zd:Vector Bool 4))=b6;cases b1<;>cases b2<;>cases b3<;>cases b4<;>cases b5<;>cases b6<;>rfl
 ·generalize qak c.ops=b1;cases b1<;>rfl
def qo8 (has:Nat→Bool) (s:Int):List GOp→Nat→Bool
 | [],_=>true
 | o::t,k=>bif (qa6 o.key==s && !has k) then false else qo8 has s t (k+1)
def qaw {n:Nat} (v:Vector Bool n) (k:Nat):Bool:=v[k]?.getD false
theorem qeo {n:Nat} (v:Vector Bool n) (k:Nat) (h:k<n):qam v (k:Int)=some (qaw v k):=by
 unfold qam qaw;rw [if_pos (B5 k)];simp [h]
theorem qv4 {c:GCase} {s:Int} (hc:c.ops.length≤4):∀ (n m k:Nat),c.ops.length=k+m→m<n→qhe c s n k=some (qo8 (qaw c.has) s (c.ops.drop k) k)
 | 0,m,k,_,h=>absurd h Gf
 | n+1,0,k,hk,_=>by
  rw [qhe,qad (qab Gf),List.drop_of_length_le Gf];rfl
 | n+1,m+1,k,hk,hn=>by
  have hlt:k<c.ops.length:=by omega
  have hd:c.ops.drop k=c.ops[k]::c.ops.drop (k+1):=Ad hlt;have hx:c.ops[k]? = some c.ops[k]:=by simp
  have ih:=qv4 (s:=s) hc n m (k+1) Gf Gf;rw [qhe,qae (qac Gf),qap,hx,hd];simp only [qaa,qo8];rw [qaj Gf Gf,qeo c.has k Gf];simp only [qaa,qqm,qua];rw [qa3 Gf Gf,show (k:Int)+1=((k+1:Nat):Int) from by omega,ih];cases (qa6 c.ops[k].key==s)<;>cases qaw c.has k<;>rfl
theorem qv5 {c:GCase} {s:Int} (hc:c.ops.length≤4):∀ (n m k:Nat),c.ops.length=k+m→m<n→qhf c s n k=some (!qo8 (qaw c.has) s (c.ops.drop k) k)
 | 0,m,k,_,h=>absurd h Gf
 | n+1,0,k,hk,_=>by
  rw [qhf,qad (qab Gf),List.drop_of_length_le Gf];rfl
 | n+1,m+1,k,hk,hn=>by
  have hlt:k<c.ops.length:=by omega
  have hd:c.ops.drop k=c.ops[k]::c.ops.drop (k+1):=Ad hlt;have hx:c.ops[k]? = some c.ops[k]:=by simp
  have ih:=qv5 (s:=s) hc n m (k+1) Gf Gf;rw [qhf,qae (qac Gf),qap,hx,hd];simp only [qaa,qo8];rw [qaj Gf Gf,qeo c.has k Gf];simp only [qaa,qqn,qub];rw [qa3 Gf Gf,show (k:Int)+1=((k+1:Nat):Int) from by omega,ih];cases (qa6 c.ops[k].key==s)<;>cases qaw c.has k<;>rfl
def qeq (c:GCase) (s:Int):Bool:=qo8 (qaw c.has) s c.ops 0
theorem qv6 {fu:Nat} {c:GCase} {s:Int} (hc:c.ops.length≤4) (hf:5≤fu):q1c fu c s=some (qeq c s):=qv4 hc fu c.ops.length 0 Gf Gf
theorem qv7 {fu:Nat} {c:GCase} {s:Int} (hc:c.ops.length≤4) (hf:5≤fu):qx0 fu c s=some (!qeq c s):=qv5 hc fu c.ops.length 0 Gf Gf
theorem q15 {has:Nat→Bool} {s:Int}:∀ (l:List GOp) (k:Nat),qag l s=false→qo8 has s l k=true
 | [],_,_=>rfl
 | o::t,k,h=>by
  unfold qag at h;rw [List.any_cons,Bool.or_eq_false_iff] at h;rw [qo8,h.1,qad (by rfl)];exact q15 t (k+1) h.2
def qkg (c:GCase) (id:Int) (k:Nat):List GFrame :=
 bif c.fixed then bif !qaw c.known k || !qeq c (ofZ k) then [⟨3,k,id,c.ops,c.deps,[],[]⟩] else []
 else bif qag c.ops (ofZ k) && !qaw c.told k then [⟨1,k,id,c.ops,[],[],[]⟩] else []
def qh1 (c:GCase) (id:Int):Nat→Nat→List GFrame
 | 0,_=>[]
 | m+1,k=>qkg c id k++qh1 c id m (k+1)
theorem q39 (c:GCase) (id:Int) (k:Nat):(qkg c id k).length≤1:=by
 unfold qkg;cases c.fixed<;>simp only [cond_true,cond_false]
 ·cases (qag c.ops (ofZ k) && !qaw c.told k)<;>simp
 ·cases (!qaw c.known k || !qeq c (ofZ k))<;>simp
theorem qyg {c:GCase} {id:Int}:∀ (m k:Nat) (f:GFrame),f∈qh1 c id m k→f.ops=c.ops
 | 0,k,f,h=>by simp [qh1] at h
 | m+1,k,f,h=>by
  rw [qh1,List.mem_append] at h;rcases h with h | h
  ·unfold qkg at h;cases hfx:c.fixed<;>rw [hfx] at h<;>simp only [cond_true,cond_false] at h
   ·cases hb:(qag c.ops (ofZ k) && !qaw c.told k)<;>rw [hb] at h<;>simp at h;rw [h]
   ·cases hb:(!qaw c.known k || !qeq c (ofZ k))<;>rw [hb] at h<;>simp at h;rw [h]
  ·exact qyg m (k+1) f h
theorem qyh {c:GCase} {id:Int}:∀ (m k:Nat),(qh1 c id m k).length≤m
 | 0,k=>by simp [qh1]
 | m+1,k=>by
  rw [qh1,List.length_append];have:=q39 c id k;have:=qyh (c:=c) (id:=id) m (k+1);omega
theorem appF {l:List GFrame} {f:GFrame} (h:l.length≤6):app l [f]=some (l++[f]):=qas (by
 have:Rep.bytes GFrame=120:=rfl
 rw [this]
 simp
 omega)
theorem qv8 {fu:Nat} {c:GCase} {id:Int} (hc:c.ops.length≤4) (hf:5≤fu):∀ (n m k:Nat) (l:List GFrame),k+m=6→m<n→l.length≤k→qf0 fu c id n l k=some (l++qh1 c id m k)
 | 0,m,k,l,_,h,_=>absurd h Gf
 | n+1,0,k,l,hk,_,_=>by
  rw [qf0,qad (qab Gf)];simp [qh1]
 | n+1,m+1,k,l,hk,hn,hl=>by
  have ih:=fun l' hl'=>qv8 (id:=id) hc hf n m (k+1) l' Gf Gf hl';have hw:Gr ((k:Int)+1)=((k+1:Nat):Int):=by rw [qa3 Gf Gf];omega
  rw [qf0,qae (qac Gf),qh1];simp only [qaa,qob,qlk,qoa,hw,appF (show l.length≤6 by omega),qeo c.told k Gf,qeo c.known k Gf,qaj (show (0:Int)≤k by omega) (show (k:Int)<6 by omega),qv6 hc hf];unfold qkg;have i0:=ih l Gf;have i1:=fun f=>ih (l++[f]) (by simp;omega);cases hfx:c.fixed
  ·cases ht:qag c.ops (ofZ k)
   ·simp only [Ap,cond_true,cond_false,Da];rw [i0];simp
   ·cases hh:qaw c.told k
    ·simp only [Ap,cond_true,cond_false,Aq];rw [i1];simp;rfl
    ·simp only [Ap,Aj,cond_true,cond_false,Aq];rw [i0];simp
  ·cases hh:qaw c.known k
   ·simp only [Ap,Aj,cond_true,cond_false,Bool.true_or];rw [i1];simp;rfl
   ·cases ht:qag c.ops (ofZ k)
    ·have hwh:qeq c (ofZ k)=true:=q15 c.ops 0 ht;simp only [Aj,cond_true,cond_false,hwh,Ge];rw [i0];simp
    ·cases hwh:qeq c (ofZ k)
     ·simp only [Ap,Aj,cond_true,cond_false,Bi];rw [i1];simp;rfl
     ·simp only [Aj,cond_true,cond_false,Ge];rw [i0];simp
theorem qnn {fu:Nat} {c:GCase} {id:Int} (hc:c.ops.length≤4) (hf:5≤fu):∀ (n m k:Nat) (l:List GFrame),k+m=6→m<n→l.length≤k→qbv fu c id n l k=some (l++qh1 c id m k)
 | 0,m,k,l,_,h,_=>absurd h Gf
 | n+1,0,k,l,hk,_,_=>by
  rw [qbv,qad (qab Gf)];simp [qh1]
 | n+1,m+1,k,l,hk,hn,hl=>by
  have ih:=fun l' hl'=>qnn (id:=id) hc hf n m (k+1) l' Gf Gf hl';have hw:Gr ((k:Int)+1)=((k+1:Nat):Int):=by rw [qa3 Gf Gf];omega
  rw [qbv,qae (qac Gf),qh1];simp only [qaa,qhp,qfh,qfi,qho,hw,appF (show l.length≤6 by omega),qeo c.told k Gf,qeo c.known k Gf,qaj (show (0:Int)≤k by omega) (show (k:Int)<6 by omega),qv7 hc hf];unfold qkg;have i0:=ih l Gf;have i1:=fun f=>ih (l++[f]) (by simp;omega);cases hfx:c.fixed
  ·cases ht:qag c.ops (ofZ k)
   ·simp only [Ap,cond_true,cond_false,Da];rw [i0];simp
   ·cases hh:qaw c.told k
    ·simp only [Ap,cond_true,cond_false,Aq];rw [i1];simp;rfl
    ·simp only [Ap,Aj,cond_true,cond_false,Aq];rw [i0];simp
  ·cases hh:qaw c.known k
   ·simp only [Ap,Aj,cond_true,cond_false,Bool.true_or];rw [i1];simp;rfl
   ·cases hwh:qeq c (ofZ k)
    ·simp only [Ap,Aj,cond_true,cond_false,Bi];rw [i1];simp;rfl
    ·simp only [Aj,cond_true,cond_false,Ge];rw [i0];simp
def q4a (c:GCase) (id:Int):Bool:=qdz c&&(c.begun&&(decide (0≤id∧id<32) && !qcx c.deps id))
def qj6 (c:GCase) (id:Int):List GFrame:=bif q4a c id then qh1 c id 6 0 else []
theorem ql0 {c:GCase} (h:qdz c=true) (hb:c.begun=true):c.ops.length≤4:=by
 unfold qdz at h;rw [hb] at h;simp only [cond_true,X9] at h;exact (qdh h.1).2
theorem qv9 {fu:Nat} {c:GCase} {id:Int} (hf:7≤fu):qu9 fu c id=some (qj6 c id):=by
 unfold qu9 qj6 q4a qj0 quc;rw [qnm];simp only [qaa];cases hg:qdz c
 ·rfl
 ·cases hb:c.begun
  ·rfl
  ·by_cases h0:id<0
   ·rw [qac h0,qab (show ¬ (0≤id∧id<32) by omega)];rfl
   ·by_cases h1:id≥32
    ·rw [qab h0,qac h1,qab (show ¬ (0≤id∧id<32) by omega)];rfl
    ·rw [qab h0,qab h1,qac (show 0≤id∧id<32 by omega)];cases hh:qcx c.deps id
     ·have:=qv8 (fu:=fu) (id:=id) (ql0 hg hb) Gf fu 6 0 [] Gf Gf (by simp);simpa using this
     ·rfl
theorem ql1 {fu:Nat} {c:GCase} {id:Int} (hf:7≤fu):qgs fu c id=some (qj6 c id):=by
 unfold qgs qj6 q4a qd6 qj1;rw [qsw Gf];simp only [qaa];cases hg:qdz c
 ·rfl
 ·cases hb:c.begun
  ·rfl
  ·cases hd:decide (0≤id∧id<32)
   ·rfl
   ·cases hh:qcx c.deps id
    ·have:=qnn (fu:=fu) (id:=id) (ql0 hg hb) Gf fu 6 0 [] Gf Gf (by simp);simpa using this
    ·rfl
theorem againC_small {c:GCase} {id:Int}:(qj6 c id).length≤6∧∀ f∈qj6 c id,f.ops.length≤4:=by
 unfold qj6;cases hs:q4a c id
 ·simp
 ·unfold q4a at hs;simp only [X9] at hs;refine ⟨qyh 6 0,fun f hf=>?_⟩;rw [qyg 6 0 f hf];exact ql0 hs.1 hs.2.1
theorem qw7 {fu:Nat} {c:GCase} (hf:c.ops.length<fu) (h:c.ops.length≤9000000000000000):qje fu c c=some true:=by
 unfold qje qb3;rw [qrr h hf];simp only [qaa,qn8,beq_self_eq_true,cond_true,decide_true]
def zei (ops:List GOp):GCase:=⟨true,false,ops,Zr.zd,Zr.zd,[],Zr.zd,Zr.zd⟩
def noC:GCase:=⟨false,false,[],Zr.zd,Zr.zd,[],Zr.zd,Zr.zd⟩
def qer (t:GTxn):GCase × List GFrame × Int :=
 bif decide (0≤t.id∧t.id<32) then bif qak t.ops then (zei t.ops,qj6 (zei t.ops) t.id,0) else (noC,[],1) else (noC,[],2)
theorem appO {l:List GOp} (h:l.length≤4):app ([]:List GOp) l=some l:=by
 rw [qas]
 ·simp
 ·have:Rep.bytes GOp=24:=rfl;rw [this];simp;omega
theorem qz1 {fu:Nat} {t:GTxn} (hf:7≤fu):qko fu t=some (qer t):=by
 unfold qko qer qhq qj2 qhn;by_cases h0:t.id<0
 ·rw [qac h0,qab (show ¬ (0≤t.id∧t.id<32) by omega)];rfl
 ·by_cases h1:t.id≥32
  ·rw [qab h0,qac h1,qab (show ¬ (0≤t.id∧t.id<32) by omega)];rfl
  ·rw [qab h0,qab h1,qac (show 0≤t.id∧t.id<32 by omega)];simp only [qaa,cond_false,cond_true];cases hg:qak t.ops
   ·rfl
   ·simp only [Aj,cond_false,cond_true];rw [appO (qdh hg).2];simp only [qaa];have:=qv9 (c:=zei t.ops) (id:=t.id) hf;unfold zei at this ⊢;erw [this];rfl
theorem qz2 {fu:Nat} {t:GTxn} (hf:7≤fu):qkp fu t=some (qer t):=by
 unfold qkp qer;simp only [qaa];cases hd:decide (0≤t.id∧t.id<32)
 ·rfl
 ·cases hg:qak t.ops
  ·rfl
  ·simp only [Aj,cond_false,cond_true];rw [appO (qdh hg).2];simp only [qaa];have:=ql1 (c:=zei t.ops) (id:=t.id) hf;unfold zei at this ⊢;erw [this];rfl
def qes (c:GCase):List Int × Bool:=bif c.begun&&(qdz c&&(qeq c 0&&qeq c 1)) then (c.values.toList.take c.ops.length,true) else ([],false)
theorem qw8 {fu:Nat} {c:GCase} (hf:7≤fu):qjf fu c=some (qes c):=by
 unfold qjf qes qf1 qik;rw [qnm];simp only [qaa];cases hb:c.begun
 ·rfl
 ·cases hg:qdz c
  ·rfl
  ·have hl:=ql0 hg hb;obtain ⟨fu,rfl⟩:∃ n,fu=n+3:=⟨fu-3,by omega⟩;simp only [Aj,cond_true,cond_false,Aq];rw [qb6,qv6 hl Gf];simp only [qaa];rw [qae (by rfl)];cases qeq c 0
   ·rfl
   ·rw [qad (by rfl),qb6,show Gr (0+1)=1 from by rw [qa3 Gf Gf];rfl,qv6 hl Gf];simp only [qaa];rw [qae (by rfl)];cases qeq c 1
    ·rfl
    ·rw [qad (by rfl),qb6,show Gr (1+1)=2 from by rw [qa3 Gf Gf];rfl,qad (by rfl)];have hv:c.values.toList.length=4:=by simp
     have hcut:qxm c.values.toList none (some (c.ops.length:Int))=some (c.values.toList.take c.ops.length):=by
      unfold qxm qhk;rw [if_pos (by simp;omega)];simp
     rw [hcut];simp only [qaa,qcb];rw [qas]
     ·rfl
     ·have:Rep.bytes Int=8:=rfl;rw [this];simp;omega
theorem qo9 {c:GCase} (hc:c.ops.length≤4):∀ (n m k:Nat),c.ops.length=k+m→m<n→qdf c n (c.values.toList.take k) k=some (c.values.toList.take c.ops.length,true)
 | 0,m,k,_,h=>absurd h Gf
 | n+1,0,k,hk,_=>by
  rw [qdf,qad (qab Gf),show c.ops.length=k from by omega]
 | n+1,m+1,k,hk,hn=>by
  have ih:=qo9 hc n m (k+1) Gf Gf;have hkv:k<c.values.toList.length:=by simp;omega
  rw [qdf,qae (qac Gf),qaj Gf Gf,qaa];have hv:qam c.values (k:Int)=some (c.values.toList[k]):=by
   unfold qam;rw [if_pos (B5 k)];simp
  rw [hv,qaa,qas,qaa,qa3 Gf Gf,← Dg hkv]
  ·exact ih
  ·have:Rep.bytes Int=8:=rfl;rw [this];simp;omega
theorem qtm {fu:Nat} {c:GCase} (hf:7≤fu):qkq fu c=some (qes c):=by
 unfold qkq qes qe9 qll;rw [qsw Gf];simp only [qaa];cases hb:c.begun
 ·rfl
 ·cases hg:qdz c
  ·rfl
  ·have hl:=ql0 hg hb;rw [qv7 hl Gf,qv7 hl Gf];simp only [qaa];cases qeq c 0
   ·rfl
   ·cases qeq c 1
    ·rfl
    ·exact qo9 hl fu c.ops.length 0 Gf Gf
def eat (v:Vector GEntry 32) (k:Nat):GEntry:=v[k]?.getD Zr.zd
theorem q9q {v:Vector GEntry 32} {k:Nat} (hk:k<32):v[k]=eat v k:=by simp [eat,hk]
theorem qsx {v:Vector GEntry 32} {k:Nat} (hk:k<32):qam v (k:Int)=some (eat v k):=by rw [qsr hk,q9q hk]
theorem zdu {v:Vector GEntry 32} {k j:Nat} {x:GEntry} (hk:k<32):eat (v.set k x) j=if k=j then x else eat v j:=by
 unfold eat;by_cases hj:j<32
 ·simp only [Vector.getElem?_set];by_cases e:k=j
  ·subst e;simp
  ·simp [e]
 ·have hkj:k≠j:=by omega
  simp [hj,hkj]
theorem q9r {v u:Vector GEntry 32} (h:∀ k,k<32→eat v k=eat u k):v=u:=by
 refine Vector.ext fun k hk=>?_;rw [q9q hk,q9q hk];exact h k hk
theorem zdv {v:Vector GEntry 32} {k:Nat} (hk:¬ k<32):eat v k=Zr.zd:=by simp [eat,hk]
def qrs (e:GEntry):Bool:=((e.ops.length:Int)==0)&&(((e.first.length:Int)==0)&&(((e.deps.length:Int)==0)&&(((e.at_.length:Int)==0)&&((e.values.length:Int)==0))))
def qz3 (m:Int):Int→List Int→Bool
 | _,[]=>true
 | b,k::t=>decide (b<k∧k<m)&&qz3 m k t
def qyi (k:Int) (e:GEntry):Bool:=qak e.ops&&(qan e.first&&(qan e.deps&&(!qcx e.first k&&(!qcx e.deps k&&(!(e.state==1&&decide ((e.deps.length:Int)>0))&&(!(e.state != 3&&decide ((e.at_.length:Int)>0))&&(!((e.at_.length:Int) != (e.values.length:Int))&&qz3 e.ops.length (-1) e.at_)))))))
def qtn (k:Int) (e:GEntry):Bool:=bif e.state==0 then qrs e else qyi k e
def qg7 (k:Int) (e:GEntry) (there:Bool):Bool:=decide (0≤e.state∧e.state≤3)&&(((e.state==3)==there)&&qtn k e)
structure GoodN (s:GNode):Prop where
 nodup:s.order.Nodup
 inr:∀ m∈s.order,0≤m∧m<32
 ent:∀ k:Nat,k<32→qg7 k (eat s.entries k) (decide ((k:Int)∈s.order))=true
open Classical in
noncomputable def qz4 (s:GNode):Bool:=decide (GoodN s)
theorem goodN_iff {s:GNode}:qz4 s=true↔GoodN s:=by simp [qz4]
structure ESz (e:GEntry) (N:Nat):Prop where
 ops:e.ops.length<N∧e.ops.length*24≤140737488351232
 first:e.first.length<N∧e.first.length≤17592186043904
 deps:e.deps.length<N∧e.deps.length≤17592186043904
 at_:e.at_.length<N∧e.at_.length≤17592186043904
 values:e.values.length<N∧e.values.length≤17592186043904
structure NSz (s:GNode) (N:Nat):Prop where
 order:s.order.length<N∧s.order.length≤17592186043904
 ent:∀ k,ESz (eat s.entries k) N
theorem qpa {y69:Int} {rec70:Int→Option Bool} {e:GEntry} (ha:e.at_.length≤17592186043904):∀ (n m k:Nat) (b:Int),e.at_.length=k+m→m<n → -1≤b→(k=0→b = -1)→(∀ j,k=j+1→e.at_[j]? = some b) →
 qbo y69 rec70 e n k=bif qz3 e.ops.length b (e.at_.drop k) then qd9 y69 rec70 else some false
 | 0,m,k,b,_,h,_,_,_=>absurd h Gf
 | n+1,0,k,b,hk,_,_,_,_=>by
  rw [qbo,qad (qab Gf),List.drop_of_length_le Gf];rfl
 | n+1,m+1,k,b,hk,hn,hb,hb0,hbj=>by
  have hlt:k<e.at_.length:=by omega
  have hx:e.at_[k]? = some e.at_[k]:=X7 hlt;have ih:=qpa (y69:=y69) (rec70:=rec70) ha n m (k+1) e.at_[k] Gf Gf;rw [qbo,qae (qac Gf),qap,hx,qaa,Ad hlt];simp only [qfa,qlq,wrs k Gf,qz3];generalize hg:e.at_[k]=x at ih hx;by_cases h1:x<0
  ·rw [qae (qac h1),qab (show ¬ (b<x∧x<(e.ops.length:Int)) by omega)];rfl
  ·rw [qad (qab h1)];have ih:=ih Gf Gf (fun j hj=>by rw [show j=k from by omega];exact hx);by_cases h2:x≥(e.ops.length:Int)
   ·rw [qae (qac h2),qab (show ¬ (b<x∧x<(e.ops.length:Int)) by omega)];rfl
   ·rw [qad (qab h2)];cases k with
    | zero =>
     rw [qad (qab Gf),qac (show b<x∧x<(e.ops.length:Int) by have:=hb0 rfl;omega),Aq,← ih];rfl
    | succ j =>
     rw [qae (qac Gf),show Gr (((j+1:Nat):Int)-1)=(j:Int) by rw [qa3 Gf Gf];omega,qap,hbj j rfl,qaa];by_cases h3:b≥x
     ·rw [qac h3,qab (show ¬ (b<x∧x<(e.ops.length:Int)) by omega)];rfl
     ·rw [qab h3,qac (show b<x∧x<(e.ops.length:Int) by omega),Aq,← ih];rfl
theorem q9s {e:GEntry} {N:Nat} (h:ESz e N):decide ((Gr ((Gr ((Gr ((Gr ((e.ops.length:Int)+(e.first.length:Int)))+(e.deps.length:Int)))+(e.at_.length:Int)))+(e.values.length:Int)))>0) = !qrs e:=by
 obtain ⟨⟨_,h1⟩,⟨_,h2⟩,⟨_,h3⟩,⟨_,h4⟩,⟨_,h5⟩⟩:=h;unfold qrs;generalize e.ops.length=a1 at *;generalize e.first.length=a2 at *
 generalize e.deps.length=a3 at *;generalize e.at_.length=a4 at *;generalize e.values.length=a5 at *;rw [qa3 (x:=(a1:Int)+a2) Gf Gf,qa3 (x:=(a1:Int)+a2+a3) Gf Gf,qa3 (x:=(a1:Int)+a2+a3+a4) Gf Gf,qa3 Gf Gf];by_cases h:(a1:Int)+a2+a3+a4+a5>0
 ·rw [qac h];symm;rw [Dt];apply Ev.2;simp only [ne_eq,X9,beq_iff_eq];omega
 ·rw [qab h];symm;rw [Bool.not_eq_false'];simp only [X9,beq_iff_eq];omega
theorem q16 {fu N k:Nat} {e:GEntry} {there:Bool} (h:ESz e N) (hfu:N≤fu) {rec:Int→Option Bool} :
 (bif decide (e.state<0) then qco fu k rec e true else (bif decide (e.state>3) then qco fu k rec e true else qco fu k rec e (!((e.state==3)==there))))=bif qg7 k e there then qd9 k rec else some false:=by
 unfold qg7;by_cases h1:e.state<0
 ·rw [qae (qac h1),qab (show ¬ (0≤e.state∧e.state≤3) by omega)];rfl
 ·rw [qad (qab h1)];by_cases h2:e.state>3
  ·rw [qae (qac h2),qab (show ¬ (0≤e.state∧e.state≤3) by omega)];rfl
  ·rw [qad (qab h2),qac (show 0≤e.state∧e.state≤3 by omega),Aq];unfold qco;cases h3:((e.state==3)==there)
   ·rfl
   ·rw [Aq,qad (c := !true) rfl];unfold qls qtn;cases h0:(e.state==0)
    ·rw [cond_false,cond_false];have hl:=qpa (y69:=k) (rec70:=rec) h.at_.2 fu e.at_.length 0 (-1) Gf (by have:=h.at_.1;omega) Gf Gf Gf;have hl:qbo k rec e fu 0=bif qz3 e.ops.length (-1) e.at_ then qd9 k rec else some false:=hl;simp only [qaa,qba,qlr,hl];unfold qyi;generalize qak e.ops=b1;generalize qan e.first=b2
     generalize qan e.deps=b3;generalize qcx e.first k=b4
     generalize qcx e.deps k=b5;generalize decide ((e.deps.length:Int)>0)=b7;generalize decide ((e.at_.length:Int)>0)=b9;generalize ((e.at_.length:Int) != (e.values.length:Int))=b10;cases b1
     ·rfl
     cases b2
     ·rfl
     cases b3
     ·rfl
     cases b4
     case true=>rfl
     cases b5
     case true=>rfl
     generalize (e.state==1)=b6;generalize (e.state != 3)=b8;cases b6<;>cases b7<;>cases b8<;>cases b9<;>cases b10<;>rfl
    ·rw [cond_true,cond_true,q9s h];cases qrs e<;>rfl
theorem qpb {fu N:Nat} {s:GNode} {d:Vector Bool 32} (h:NSz s N) (hfu:N≤fu):∀ (n m k:Nat),k+m=32→m<n→∃ b,qcf fu s d n k=some b∧(b=true↔∀ j,k≤j→j<32→qg7 j (eat s.entries j) (bat d j)=true)
 | 0,m,k,_,h=>absurd h Gf
 | n+1,0,k,hk,_=>⟨true,by rw [qcf,qad (qab Gf)],by simp only [true_iff];intro j h1 h2;omega⟩
 | n+1,m+1,k,hk,hn=>by
  have hk32:k<32:=by omega
  obtain ⟨b,h1,h2⟩:=qpb (d:=d) h hfu n m (k+1) Gf Gf;rw [qcf,qae (qac Gf),qsx hk32,qaa,qaa,qaj Gf Gf,qaa,qss hk32,qaa,q16 (h.ent k) hfu];cases he:qg7 k (eat s.entries k) (bat d k) with
  | false =>
   refine ⟨false,rfl,?_⟩;simp only [Bc,false_iff];intro h;rw [h k (Ai _) hk32] at he;cases he
  | true =>
   refine ⟨b,?_,?_⟩
   ·rw [cond_true,qd9,wrs k Gf];exact h1
   ·rw [h2];constructor
    ·intro h j hj;by_cases e:j=k
     ·subst e;intro _;exact he
     ·exact h j Gf
    ·intro h j hj;exact h j Gf
theorem q4b {k:Int} {e:GEntry} {t:Bool} (h:qg7 k e t=true):(e.state=3↔t=true):=by
 unfold qg7 at h;simp only [X9] at h;have h1:=h.2.1;cases t
 ·simp at h1;simp [h1]
 ·simp at h1;simp [h1]
theorem qpc {fu N:Nat} {s:GNode} (h:NSz s N) (hfu:N+40≤fu):∀ (n m k:Nat) (d:Vector Bool 32),s.order.length=k+m→m<n→(s.order.take k).Nodup→(∀ x∈s.order.take k,(0≤x∧x<32))→(∀ j,j<32→bat d j=decide ((j:Int)∈s.order.take k)) →
 ∃ b,qbi fu s n d k=some b∧(b=true↔GoodN s)
 | 0,m,k,d,_,h,_,_,_=>absurd h Gf
 | n+1,0,k,d,hk,_,h1,h2,h3=>by
  have hlen:=h.order.2;rw [qbi,qad (qab Gf)];rw [Dn Gf] at h1 h2 h3;obtain ⟨b,e1,e2⟩:=qpb (d:=d) h (show N≤fu by omega) fu 32 0 Gf Gf;refine ⟨b,e1,?_⟩;rw [e2];constructor
  ·intro h;exact ⟨h1,h2,fun k hk=>by rw [← h3 k hk];exact h k (Ao _) hk⟩
  ·intro h j _ hj;rw [h3 j hj];exact h.ent j hj
 | n+1,m+1,k,d,hk,hn,h1,h2,h3=>by
  have hlt:k<s.order.length:=by omega
  have hx:s.order[k]? = some s.order[k]:=X7 hlt;have hmem:s.order[k]∈s.order:=A2 hlt;have htk:s.order.take (k+1)=s.order.take k++[s.order[k]]:=(List.take_append_getElem hlt).symm;have hlen:=h.order.2;rw [qbi,qae (qac Gf),qap,hx,qaa];have ih:=qpc h hfu n m (k+1);rw [htk] at ih;generalize hg:s.order[k]=x at *;rcases qhy x with ⟨y,hy,rfl⟩ | hno
  ·rw [qad (qab Gf),qad (qab Gf),qaj Gf Gf,qaa,qss hy,qaa];cases hb:bat d y with
   | true =>
    refine ⟨false,rfl,?_⟩;simp only [Bc,false_iff];intro hG;have hin:(y:Int)∈s.order.take k:=by rw [h3 y hy] at hb;simpa using hb
    have hnd:=hG.nodup;rw [← List.take_append_drop (k+1) s.order,htk] at hnd;have:=(Du.1 (Du.1 hnd).1).2.2 _ hin _ (Ag.2 rfl);exact this rfl
   | false =>
    have hnin:(y:Int)∉s.order.take k:=by rw [h3 y hy] at hb;simpa using hb
    rw [cond_false,qaa,qsx hy,qaa];cases h3s:((eat s.entries y).state != 3) with
    | true =>
     refine ⟨false,rfl,?_⟩;simp only [Bc,false_iff];intro hG;have:=(q4b (hG.ent y hy)).2 (by simpa using hmem);rw [this] at h3s;cases h3s
    | false =>
     unfold qd8 qlp qlo;rw [cond_false,qaj Gf Gf,qaa,qss hy,qaa,qc9 hy,qaa,qaa,wrs k Gf];refine ih (d.set y true) Gf Gf ?_ ?_ ?_
     ·refine Du.2 ⟨h1,by simp,fun a ha b hb=>?_⟩;rw [Ag.1 hb];rintro rfl;exact hnin ha
     ·intro z hz;rcases Al.1 hz with hz | hz
      ·exact h2 z hz
      ·rw [Ag.1 hz];omega
     ·intro j hj;rw [qfc hy];by_cases e:y=j
      ·subst e;simp
      ·rw [if_neg e,h3 j hj];congr 1;simp only [Al,Ag,eq_iff_iff];constructor
       ·exact .inl
       ·rintro (h | h)
        ·exact h
        ·omega
  ·have:qd8 d k (qbi fu s n) x true=some false:=rfl;refine ⟨false,?_,?_⟩
   ·by_cases h0:x<0
    ·rw [qae (qac h0)];rfl
    ·rw [qad (qab h0),qae (qac Gf)];rfl
   ·simp only [Bc,false_iff];intro hG;exact hno (hG.inr x hmem)
theorem q17 {fu N:Nat} {s:GNode} (h:NSz s N) (hfu:N+40≤fu):qm0 fu s=some (qz4 s):=by
 unfold qm0;rw [qaa];obtain ⟨b,h1,h2⟩:=qpc h hfu fu s.order.length 0 (Zr.zd:Vector Bool 32) Gf (by have:=h.order.1;omega) (by simp) (by simp) (fun j _=>by rw [quj];simp);have h1:qbi fu s fu (Zr.zd:Vector Bool 32) 0=some b:=h1;rw [h1];congr 1;rw [Ax,h2,goodN_iff]
abbrev Dv := @List.range_eq_range'
def qto (k:Int) (e:GEntry) (c:Int):Bool:=decide (0≤e.state∧e.state≤3)&&((bif e.state==3 then c==1 else c==0)&&qtn k e)
theorem qtp {y:Int} {rec:Int→Option Bool} {e:GEntry} (ha:e.at_.length≤17592186043904):∀ (n m k:Nat) (b:Int),e.at_.length=k+m→m<n →
 qed y rec e n b k=bif qz3 e.ops.length b (e.at_.drop k) then qhs y rec else some false
 | 0,m,k,b,_,h=>absurd h Gf
 | n+1,0,k,b,hk,_=>by
  rw [qed,qad (qab Gf),List.drop_of_length_le Gf];rfl
 | n+1,m+1,k,b,hk,hn=>by
  have hlt:k<e.at_.length:=by omega
  have hx:e.at_[k]? = some e.at_[k]:=X7 hlt;have ih:=qtp (y:=y) (rec:=rec) ha n m (k+1) e.at_[k] Gf Gf;rw [qed,qae (qac Gf),qap,hx,qaa,Ad hlt];simp only [qnh,qrc,qrb,wrs k Gf,qz3];rw [ih];generalize e.at_[k]=x;by_cases h1:x≤b
  ·rw [qae (qac h1),qab (show ¬ (b<x∧x<(e.ops.length:Int)) by omega)];rfl
  ·rw [qad (qab h1)];by_cases h2:x≥(e.ops.length:Int)
   ·rw [qac h2,qab (show ¬ (b<x∧x<(e.ops.length:Int)) by omega)];rfl
   ·rw [qab h2,qac (show b<x∧x<(e.ops.length:Int) by omega)];rfl
theorem qw9 {fu N:Nat} {e:GEntry} (h:ESz e N) (hf:0<fu) (h0:(e.state==0)=true) :
 qfm fu e { state:=Zr.zd,ops:=Zr.zd,first:=Zr.zd,deps:=Zr.zd,at_:=Zr.zd,values:=Zr.zd }=some (qrs e):=by
 unfold qfm;have e0:(e.state==(Zr.zd:Int))=true:=h0;have e1:qij fu e.ops (Zr.zd:List GOp)=some ((e.ops.length:Int)==0):=qtl hf;have e2:∀ l:List Int,qkm l (Zr.zd:List Int)=((l.length:Int)==0):=q14;rw [e0,cond_true,e1,qaa];simp only [qaa,e2,qb9];unfold qrs;cases ((e.ops.length:Int)==0)<;>cases ((e.first.length:Int)==0)<;>cases ((e.deps.length:Int)==0)<;>cases ((e.at_.length:Int)==0)<;>rfl
def qk9 (fu:Nat) (y8:Int) (rec9:Int→Option Bool) (d25:GEntry) (y31:Int):Option Bool :=
 (bif decide (d25.state<0) then
 qau fu y8 rec9 d25 true
 else
 (bif decide (d25.state>3) then
 qau fu y8 rec9 d25 true
 else
 (bif d25.state==3 then
 (bif y31 != 1 then
 qau fu y8 rec9 d25 true
 else
 (bif d25.state != 3 then
 qau fu y8 rec9 d25 (y31 != 0)
 else
 qau fu y8 rec9 d25 false))
 else
 (bif d25.state != 3 then
 qau fu y8 rec9 d25 (y31 != 0)
 else
 qau fu y8 rec9 d25 false))))
theorem qz5 {fu N k:Nat} {e:GEntry} {c:Int} (h:ESz e N) (hfu:N<fu) {rec:Int→Option Bool}:qk9 fu k rec e c=bif qto k e c then qhs k rec else some false:=by
 unfold qk9 qto;by_cases h1:e.state<0
 ·rw [qae (qac h1),qab (show ¬ (0≤e.state∧e.state≤3) by omega)];rfl
 ·rw [qad (qab h1)];by_cases h2:e.state>3
  ·rw [qae (qac h2),qab (show ¬ (0≤e.state∧e.state≤3) by omega)];rfl
  ·rw [qad (qab h2),qac (show 0≤e.state∧e.state≤3 by omega),Aq];have hcut:(bif e.state==3 then (bif c != 1 then qau fu k rec e true else (bif e.state != 3 then qau fu k rec e (c != 0) else qau fu k rec e false)) else (bif e.state != 3 then qau fu k rec e (c != 0) else qau fu k rec e false))
    = qau fu k rec e (!(bif e.state==3 then c==1 else c==0)):=by
    have hne:(e.state != 3) = !(e.state==3):=rfl
    have hn1:(c != 1) = !(c==1):=rfl
    have hn0:(c != 0) = !(c==0):=rfl
    rw [hne,hn1,hn0]
    cases (e.state==3)<;>cases (c==1)<;>cases (c==0)<;>rfl
   rw [hcut];unfold qau;cases (bif e.state==3 then c==1 else c==0)
   ·rfl
   ·rw [Aq,qad (c := !true) rfl];unfold qrf qtn;cases h0:(e.state==0)
    ·rw [cond_false,cond_false];have hl:=qtp (y:=k) (rec:=rec) h.at_.2 fu e.at_.length 0 (-1) Gf (by have:=h.at_.1;omega);have hl:qed k rec e fu (-1) 0=bif qz3 e.ops.length (-1) e.at_ then qhs k rec else some false:=hl;simp only [qaa,qem,qht,qrd,qre,hl];have hlt:decide (e.state<3)=(e.state != 3):=by
      by_cases h3:e.state=3
      ·rw [h3];rfl
      ·rw [qac (show e.state<3 by omega)];simp [h3]
     rw [hlt];unfold qyi;generalize qak e.ops=b1;generalize qan e.first=b2
     generalize qan e.deps=b3;generalize qcx e.first k=b4
     generalize qcx e.deps k=b5;generalize decide ((e.deps.length:Int)>0)=b7;generalize decide ((e.at_.length:Int)>0)=b9;generalize ((e.at_.length:Int) != (e.values.length:Int))=b10;cases b1
     ·rfl
     cases b2
     ·rfl
     cases b3
     ·rfl
     cases b4
     case true=>rfl
     cases b5
     case true=>rfl
     generalize (e.state==1)=b6;generalize (e.state != 3)=b8;cases b6<;>cases b7<;>cases b8<;>cases b9<;>cases b10<;>rfl
    ·rw [cond_true,cond_true,qaa,qw9 h Gf h0,qaa];cases qrs e<;>rfl
theorem qno {fu:Nat} {s:GNode} {y:Int} {rec:Int→Option Bool} {e:GEntry} (ho:s.order.length≤17592186043904):∀ (n m k:Nat) (c:Int),s.order.length=k+m→m<n→0≤c→c+m≤17592186043904 →
 qee fu s y rec e n c k=qk9 fu y rec e (c+((s.order.drop k).count y:Nat))
 | 0,m,k,c,_,h,_,_=>absurd h Gf
 | n+1,0,k,c,hk,_,_,_=>by
  rw [qee,qad (qab Gf),List.drop_of_length_le Gf];simp [qk9]
 | n+1,m+1,k,c,hk,hn,hc,hc2=>by
  have hlt:k<s.order.length:=by omega
  have hx:s.order[k]? = some s.order[k]:=X7 hlt;rw [qee,qae (qac Gf),qap,hx,qaa,Ad hlt,List.count_cons];simp only [qng,wrs k Gf];cases h:(s.order[k]==y)
  ·rw [cond_false,qno ho n m (k+1) c Gf Gf hc Gf];simp
  ·rw [cond_true,qa3 Gf Gf,qno ho n m (k+1) (c+1) Gf Gf Gf Gf];congr 1;simp only [if_true];omega
theorem qtq {s:GNode} (ho:s.order.length≤17592186043904):∀ (n m k:Nat),s.order.length=k+m→m<n→∃ b,qe0 s n k=some b∧(b=true↔∀ x∈s.order.drop k,0≤x∧x<32)
 | 0,m,k,_,h=>absurd h Gf
 | n+1,0,k,hk,_=>⟨true,by rw [qe0,qad (qab Gf)],by rw [List.drop_of_length_le Gf];simp⟩
 | n+1,m+1,k,hk,hn=>by
  have hlt:k<s.order.length:=by omega
  have hx:s.order[k]? = some s.order[k]:=X7 hlt;obtain ⟨b,h1,h2⟩:=qtq ho n m (k+1) Gf Gf;rw [qe0,qae (qac Gf),qap,hx,qaa,qaa,Ad hlt,wrs k Gf,h1];by_cases h:0≤s.order[k]∧s.order[k]<32
  ·refine ⟨b,by rw [qac h];rfl,?_⟩;rw [h2];constructor
   ·intro hA x hx;rcases Ab.1 hx with rfl | hx
    ·exact h
    ·exact hA x hx
   ·intro hA x hx;exact hA x (X8 _ hx)
  ·refine ⟨false,by rw [qab h];rfl,?_⟩;simp only [Bc,false_iff];intro hA;exact h (hA _ Aa)
theorem qtr {fu N:Nat} {s:GNode} (h:NSz s N) (hfu:N<fu):∀ (n m k:Nat),k+m=32→m<n→∃ b,qc8 fu s n k=some b∧(b=true↔(∀ j,k≤j→j<32→qto j (eat s.entries j) (s.order.count (j:Int):Nat)=true)∧∀ x∈s.order,0≤x∧x<32)
 | 0,m,k,_,h=>absurd h Gf
 | n+1,0,k,hk,_=>by
  obtain ⟨b,h1,h2⟩:=qtq h.order.2 fu s.order.length 0 Gf (by have:=h.order.1;omega);have h1:qe0 s fu 0=some b:=h1;refine ⟨b,by rw [qc8,qad (qab Gf),h1],?_⟩;rw [h2];simp only [Bu];exact ⟨fun h=>⟨fun j h1 h2=>by omega,h⟩,fun h=>h.2⟩
 | n+1,m+1,k,hk,hn=>by
  have hk32:k<32:=by omega
  obtain ⟨b,h1,h2⟩:=qtr h hfu n m (k+1) Gf Gf;have ho:=h.order;have hl:=qno (fu:=fu) (y:=(k:Int)) (rec:=qc8 fu s n) (e:=eat s.entries k) ho.2 fu s.order.length 0 0 Gf Gf Gf Gf;have hl:qee fu s k (qc8 fu s n) (eat s.entries k) fu 0 0=qk9 fu k (qc8 fu s n) (eat s.entries k) (0+(s.order.count (k:Int):Nat)):=hl;rw [qc8,qae (qac Gf),qsx hk32,qaa,qaa,hl,qz5 (h.ent k) hfu,D9];cases he:qto k (eat s.entries k) (s.order.count (k:Int):Nat) with
  | false =>
   refine ⟨false,rfl,?_⟩;simp only [Bc,false_iff];intro h;rw [h.1 k (Ai _) hk32] at he;cases he
  | true =>
   refine ⟨b,?_,?_⟩
   ·rw [cond_true,qhs,wrs k Gf];exact h1
   ·rw [h2];refine and_congr_left fun _=>?_;constructor
    ·intro h j hj;by_cases e:j=k
     ·subst e;intro _;exact he
     ·exact h j Gf
    ·intro h j hj;exact h j Gf
theorem qyj {k:Int} {e:GEntry} {l:List Int} (h:l.Nodup):qto k e (l.count k:Nat)=qg7 k e (decide (k∈l)):=by
 unfold qto qg7;congr 2;rw [h.count];cases h3:(e.state==3)
 ·by_cases hm:k∈l
  ·simp [hm]
  ·simp [hm]
 ·by_cases hm:k∈l
  ·simp [hm]
  ·simp [hm]
theorem q6w {s:GNode}:((∀ j:Nat,0≤j→j<32→qto j (eat s.entries j) (s.order.count (j:Int):Nat)=true)∧∀ x∈s.order,0≤x∧x<32)↔GoodN s:=by
 constructor
 ·intro h;have hn:s.order.Nodup:=by
   rw [List.nodup_iff_count];intro a;by_cases ha:a∈s.order
   ·have hr:=h.2 a ha;obtain ⟨j,rfl⟩:∃ j:Nat,a=j:=⟨a.toNat,by omega⟩;have h1:=h.1 j (Ao _) Gf;unfold qto at h1;simp only [X9] at h1;have h2:=h1.2.1;cases h3:((eat s.entries j).state==3)<;>rw [h3] at h2<;>simp at h2
    ·omega
    ·omega
   ·rw [List.count_eq_zero.2 ha];omega
  exact ⟨hn,h.2,fun k hk=>by rw [← qyj hn];exact h.1 k (Ao _) hk⟩
 ·intro h;exact ⟨fun j _ hj=>by rw [qyj h.nodup];exact h.ent j hj,h.inr⟩
theorem q6x {fu N:Nat} {s:GNode} (h:NSz s N) (hfu:N+40≤fu):qvs fu s=some (qz4 s):=by
 unfold qvs;obtain ⟨b,h1,h2⟩:=qtr h (show N<fu by omega) fu 32 0 Gf Gf;have h1:qc8 fu s fu 0=some b:=h1;rw [h1];congr 1;rw [Ax,h2,goodN_iff,q6w]
theorem qnp {s:GNode} {k:Nat} (hk:k<32) {e:GEntry} (h:e=eat s.entries k):({ s with entries:=s.entries.set k e }:GNode)=s:=by
 have:s.entries.set k e=s.entries:=by
  refine q9r fun j hj=>?_;rw [zdu hk];by_cases e':k=j
  ·subst e';rw [if_pos rfl,h]
  ·rw [if_neg e']
 rw [this]
theorem qpd {N:Nat} {s:GNode} (h:NSz s N):∀ (n m k:Nat),k+m=32→m<n→qdj n s k=some s
 | 0,m,k,_,h=>absurd h Gf
 | n+1,0,k,hk,_=>by rw [qdj,qad (qab Gf),qaa]
 | n+1,m+1,k,hk,hn=>by
  have hk32:k<32:=by omega
  have hz:=h.ent k;have hb:Rep.bytes Int=8:=rfl;have hb2:Rep.bytes GOp=24:=rfl;rw [qdj,qae (qac Gf),qaj Gf Gf,qaa,qsx hk32,qaa,qaa,qaa];rw [qas (by rw [hb2];have:=hz.ops.2;simp only [A8];omega),qaa,qas (by rw [hb];have:=hz.first.2;simp only [A8];omega),qaa,qas (by rw [hb];have:=hz.deps.2;simp only [A8];omega),qaa,qaa]
  rw [Av,Av,Av,qc9 hk32,qaa,qaa,qnp hk32 rfl,qsx hk32,qaa,qc9 hk32,qaa,qaa,qnp hk32 rfl,qsx hk32,qaa,qc9 hk32,qaa,qaa,qnp hk32 rfl,qsx hk32,qaa,qaa];rw [qas (by rw [hb];have:=hz.at_.2;simp only [A8];omega),qaa,qas (by rw [hb];have:=hz.values.2;simp only [A8];omega),qaa,qaa];rw [Av,Av,qc9 hk32,qaa,qaa,qnp hk32 rfl,qsx hk32,qaa,qc9 hk32,qaa,qaa,qnp hk32 rfl,wrs k Gf];exact qpd h n m (k+1) Gf Gf
theorem q18 {fu N:Nat} {s:GNode} (h:NSz s N) (hfu:40≤fu):qnf fu s=some s:=by
 unfold qnf;have hb:Rep.bytes Int=8:=rfl;rw [qas (by rw [hb];have:=h.order.2;simp only [A8];omega),qaa,qaa];exact qpd h fu 32 0 Gf Gf
def qsy (s:GNode) (id:Int) (ops:List GOp) (sh:Int) (k:Nat):Bool:=(k:Int) != id&&((eat s.entries k).state != 0&&qdo (eat s.entries k).ops ops sh)
def q19 (s:GNode) (id:Int) (ops:List GOp) (sh:Int):List Nat:=(List.range 32).filter (qsy s id ops sh)
def qnq (s:GNode) (id:Int) (ops:List GOp) (sh:Int):List Int:=qa8 (q19 s id ops sh)
theorem q2a {p:Nat→Bool} {k m:Nat}:(List.range' k (m+1)).filter p=(bif p k then [k] else [])++(List.range' (k+1) m).filter p:=by
 rw [List.range'_succ,Ei];cases p k<;>rfl
theorem qnr {s:GNode} {id:Int} {ops:List GOp} {sh:Int}:∀ (n m k:Nat) (l:List Int),k+m=32→m<n→l.length≤k→qa2 s id ops sh n l k=some (l++qa8 ((List.range' k m).filter (qsy s id ops sh)))
 | 0,m,k,l,_,h,_=>absurd h Gf
 | n+1,0,k,l,hk,_,_=>by rw [qa2,qad (qab Gf)];simp [qa8]
 | n+1,m+1,k,l,hk,hn,hl=>by
  have hk32:k<32:=by omega
  have hb:Rep.bytes Int=8:=rfl;have ih:=fun l hl=>qnr (s:=s) (id:=id) (ops:=ops) (sh:=sh) n m (k+1) l Gf Gf hl;rw [qa2,qae (qac Gf),qsx hk32,qaa,qaa,qaa,q2a];simp only [qfj,qhr,wrs k Gf];have no:∀ b:Bool,b=false→(bif b then (app l [(k:Int)]).bind fun l44=>qa2 s id ops sh n l44 ((k+1:Nat):Int) else qa2 s id ops sh n l ((k+1:Nat):Int))=some (l++qa8 ((List.range' (k+1) m).filter (qsy s id ops sh))):=fun b hb=>by
   rw [hb,cond_false,ih l Gf]
  have yes:(app l [(k:Int)]).bind (fun l44=>qa2 s id ops sh n l44 ((k+1:Nat):Int))=some (l++qa8 (k::(List.range' (k+1) m).filter (qsy s id ops sh))):=by
   rw [qas (by rw [hb];simp only [At];omega),qaa,ih _ (by simp;omega)];simp [qa8]
  unfold qsy at no yes ⊢;cases h1:((k:Int) != id)
  ·exact no false rfl
  ·cases h2:((eat s.entries k).state != 0)
   ·exact no false rfl
   ·cases h3:qdo (eat s.entries k).ops ops sh
    ·exact no false rfl
    ·exact yes
theorem qrt {fu:Nat} {s:GNode} {id:Int} {ops:List GOp} {sh:Int} (hfu:40≤fu):qiv fu s id ops sh=some (qnq s id ops sh):=by
 unfold qiv;have h:=qnr (s:=s) (id:=id) (ops:=ops) (sh:=sh) fu 32 0 [] Gf Gf (by simp);have h:qa2 s id ops sh fu [] 0=some ([]++qa8 ((List.range' 0 32).filter (qsy s id ops sh))):=h;rw [h,qnq,q19,Dv];rfl
theorem qts {s:GNode} {id:Int} {ops:List GOp} {sh:Int} (h0:∀ k,k<32→0≤(eat s.entries k).state):∀ (n m k:Nat) (l:List Int),k+m=32→m<n→l.length≤k→qci s id ops sh n l k=some (l++qa8 ((List.range' k m).filter (qsy s id ops sh)))
 | 0,m,k,l,_,h,_=>absurd h Gf
 | n+1,0,k,l,hk,_,_=>by rw [qci,qad (qab Gf)];simp [qa8]
 | n+1,m+1,k,l,hk,hn,hl=>by
  have hk32:k<32:=by omega
  have hb:Rep.bytes Int=8:=rfl;have ih:=fun l hl=>qts (s:=s) (id:=id) (ops:=ops) (sh:=sh) h0 n m (k+1) l Gf Gf hl;rw [qci,qae (qac Gf),qaj Gf Gf,qsx hk32];simp only [qaa,qk8,qni,wrs k Gf];rw [q2a];have hs:decide ((eat s.entries k).state>0)=((eat s.entries k).state != 0):=by
   have:=h0 k hk32;by_cases h:(eat s.entries k).state=0
   ·rw [h];rfl
   ·rw [qac Gf];simp [h]
  rw [hs];have no:∀ b:Bool,b=false→(bif b then (app l [(k:Int)]).bind fun l44=>qci s id ops sh n l44 ((k+1:Nat):Int) else qci s id ops sh n l ((k+1:Nat):Int))=some (l++qa8 ((List.range' (k+1) m).filter (qsy s id ops sh))):=fun b hb=>by
   rw [hb,cond_false,ih l Gf]
  have yes:(app l [(k:Int)]).bind (fun l44=>qci s id ops sh n l44 ((k+1:Nat):Int))=some (l++qa8 (k::(List.range' (k+1) m).filter (qsy s id ops sh))):=by
   rw [qas (by rw [hb];simp only [At];omega),qaa,ih _ (by simp;omega)];simp [qa8]
  unfold qsy at no yes ⊢;cases h1:((k:Int) != id)
  ·exact no false rfl
  ·cases h2:((eat s.entries k).state != 0)
   ·exact no false rfl
   ·cases h3:qdo (eat s.entries k).ops ops sh
    ·exact no false rfl
    ·exact yes
theorem qyk {fu:Nat} {s:GNode} {id:Int} {ops:List GOp} {sh:Int} (h0:∀ k,k<32→0≤(eat s.entries k).state) (hfu:40≤fu):qsp fu s id ops sh=some (qnq s id ops sh):=by
 unfold qsp;have h:=qts (s:=s) (id:=id) (ops:=ops) (sh:=sh) h0 fu 32 0 [] Gf Gf (by simp);have h:qci s id ops sh fu [] 0=some ([]++qa8 ((List.range' 0 32).filter (qsy s id ops sh))):=h;rw [h,qnq,q19,Dv];rfl
def qpe (s:GNode):GGraph:={ known:=Vector.ofFn fun k:Fin 32=>decide ((eat s.entries k.val).state≥2),deps:=Vector.ofFn fun k:Fin 32=>(eat s.entries k.val).deps }
theorem q6y {s:GNode} {k:Nat} (hk:k<32):bat (qpe s).known k=decide ((eat s.entries k).state≥2):=by
 rw [← q5l hk];simp [qpe]
theorem qru {s:GNode} {k:Nat} (hk:k<32):qa5 (qpe s) k=(eat s.entries k).deps:=by
 simp [qpe,qa5,hk]
theorem qyl {g:GGraph} {v:Vector (List Int) 32} {k j:Nat} {x:List Int} (hk:k<32):qa5 { g with deps:=v.set k x } j=if k=j then x else qa5 { g with deps:=v } j:=by
 unfold qa5;by_cases hj:j<32
 ·simp only [hj,dite_true,Et]
 ·have:k≠j:=by omega
  simp [hj,this]
theorem q2b {g h:GGraph} (h1:∀ k,k<32→bat g.known k=bat h.known k) (h2:∀ k,k<32→qa5 g k=qa5 h k):g=h:=by
 obtain ⟨a,b⟩:=g;obtain ⟨c,d⟩:=h;have e1:a=c:=q9i h1;have e2:b=d:=Vector.ext fun k hk=>by
  have:=h2 k hk;simpa [qa5,hk] using this
 rw [e1,e2]
def q4c (s:GNode) (G:GGraph):Prop:=∀ k,k<32→bat G.known k=decide ((eat s.entries k).state≥2)∧qa5 G k=(eat s.entries k).deps
theorem q2c (s:GNode):q4c s (qpe s):=fun _ hk=>⟨q6y hk,qru hk⟩
theorem qns {s:GNode} {G:GGraph} (hG:q4c s G):∀ (n m k:Nat) (g:GGraph),k+m=32→m<n→(∀ j,j<k→bat g.known j=bat G.known j∧qa5 g j=qa5 G j)→qcp s n g k=some G
 | 0,m,k,g,_,h,_=>absurd h Gf
 | n+1,0,k,g,hk,_,hg=>by
  rw [qcp,qad (qab Gf),qaa];exact congrArg some (q2b (fun j hj=>(hg j Gf).1) fun j hj=>(hg j Gf).2)
 | n+1,m+1,k,g,hk,hn,hg=>by
  have hk32:k<32:=by omega
  rw [qcp,qae (qac Gf),qsx hk32,qaa,qaa,qaj Gf Gf,qaa,qss hk32,qaa,qc9 hk32,qaa,qaa,qaa,zeh hk32,qaa,qc9 hk32,qaa,qaa,wrs k Gf];refine qns hG n m (k+1) _ Gf Gf fun j hj=>?_;have hj32:j<32:=by omega
  refine ⟨?_,?_⟩
  ·show bat (g.known.set k _) j=_;rw [qfc hk32];by_cases e:k=j
   ·subst e;rw [if_pos rfl,(hG k hk32).1]
   ·rw [if_neg e];exact (hg j Gf).1
  ·rw [qyl hk32];by_cases e:k=j
   ·subst e;rw [if_pos rfl,(hG k hk32).2]
   ·rw [if_neg e];exact (hg j Gf).2
theorem qz6 {fu:Nat} {s:GNode} (hfu:40≤fu):qoj fu s=some (qpe s):=qns (q2c s) fu 32 0 _ Gf Gf fun j h=>by omega
theorem qrv {s:GNode} {G:GGraph} (hG:q4c s G):∀ (n m k:Nat) (g:GGraph),k+m=32→m<n→(∀ j,j<k→bat g.known j=bat G.known j∧qa5 g j=qa5 G j)→qen s n g k=some G
 | 0,m,k,g,_,h,_=>absurd h Gf
 | n+1,0,k,g,hk,_,hg=>by
  rw [qen,qad (qab Gf),qaa];exact congrArg some (q2b (fun j hj=>(hg j Gf).1) fun j hj=>(hg j Gf).2)
 | n+1,m+1,k,g,hk,hn,hg=>by
  have hk32:k<32:=by omega
  rw [qen,qae (qac Gf),qaj Gf Gf,qaa,qsx hk32,qaa,qaa,qss hk32,qaa,qc9 hk32,qaa,qaa,qaa,qaa,qaa,zeh hk32,qaa,qc9 hk32,qaa,qaa,wrs k Gf];refine qrv hG n m (k+1) _ Gf Gf fun j hj=>?_;have hj32:j<32:=by omega
  refine ⟨?_,?_⟩
  ·show bat (g.known.set k _) j=_;rw [qfc hk32];by_cases e:k=j
   ·subst e;rw [if_pos rfl,(hG k hk32).1];congr 1
   ·rw [if_neg e];exact (hg j Gf).1
  ·rw [qyl hk32];by_cases e:k=j
   ·subst e;rw [if_pos rfl,(hG k hk32).2]
   ·rw [if_neg e];exact (hg j Gf).2
theorem q4d {fu:Nat} {s:GNode} (hfu:40≤fu):qui fu s=some (qpe s):=qrv (q2c s) fu 32 0 _ Gf Gf fun j h=>by omega
abbrev Eb := @Bool.and_false
theorem qds {f:GFrame} (h:qaf f=0):(1≤f.kind∧f.kind≤5)∧(0≤f.node∧f.node<6)∧(0≤f.id∧f.id<32):=by
 unfold qaf at h;split at h
 ·cases h
 ·split at h
  ·cases h
  ·omega
theorem qar {α : Type} {n:Nat} {v:Vector α n} {j:Int} {x : α} (h0:0≤j) (h1:j<n):qdc v j x=some (v.setIfInBounds j.toNat x):=by
 unfold qdc;rw [if_pos ⟨h0,h1⟩]
theorem qp7 {n:Nat} {v:Vector Bool n} {j:Int} (h0:0≤j) (h1:j<n):qam v j=some (qaw v j.toNat):=by
 have:=qeo v j.toNat Gf;rw [show ((j.toNat:Nat):Int)=j from by omega] at this;exact this
theorem qz7 {n:Nat} {v:Vector Int n} {j:Int} (h0:0≤j) (h1:j<n):qam v j=some (v[j.toNat]?.getD 0):=by
 unfold qam;rw [if_pos h0];have:j.toNat<n:=by omega
 simp [this]
def qld (b:Bool):Int:=bif b then 1 else 0
def qpf (v:Vector Bool 6) (k:Nat):Int:=qld (qaw v k)+qld (qaw v (k+1))+qld (qaw v (k+2))
def qg8 (c:GCase):Bool:=(!qag c.ops 0||decide (qpf c.told 0≥2))&&(!qag c.ops 1||decide (qpf c.told 3≥2))
theorem qtt {c:GCase} {rec:Int→Option Bool} {s:Nat} (hs:s<2) {n:Nat}:qbw c s rec (n+4) 0 0=bif (qag c.ops s && !decide (qpf c.told (3*s)≥2)) then some false else rec (Gr ((s:Int)+1)):=by
 have h3:Gr ((s:Int)*3)=(s:Int)*3:=qa3 Gf Gf;have step:∀ (m:Nat) (y:Int) (k:Nat),k<3→0≤y→y≤10→qbw c s rec (m+1) y k=qbw c s rec m (y+qld (qaw c.told (3*s+k))) ((k+1:Nat):Int):=by
  intro m y k hk hy hy2;have hj:Gr ((s:Int)*3+(k:Int))=((3*s+k:Nat):Int):=by rw [qa3 Gf Gf];omega
  rw [qbw,qae (qac Gf),h3,hj,qaj Gf Gf,qaa,qeo c.told (3*s+k) Gf,qaa];simp only [qm2];rw [show Gr ((k:Int)+1)=((k+1:Nat):Int) from by rw [qa3 Gf Gf];omega,qa3 Gf Gf];cases qaw c.told (3*s+k)
  ·simp [qld]
  ·rfl
 have h1:∀ b,0≤qld b∧qld b≤1:=fun b=>by cases b<;>decide
 have e0:=step (n+3) 0 0 Gf Gf Gf;have b0:=h1 (qaw c.told (3*s+0));have b1:=h1 (qaw c.told (3*s+1));have e1:=step (n+2) (0+qld (qaw c.told (3*s+0))) 1 Gf Gf Gf;have e2:=step (n+1) (0+qld (qaw c.told (3*s+0))+qld (qaw c.told (3*s+1))) 2 Gf Gf Gf;have e0:qbw c s rec (n+4) 0 0=_:=e0;rw [e0];have e1:qbw c s rec (n+3) _ ((0+1:Nat):Int)=_:=e1;rw [e1];have e2:qbw c s rec (n+2) _ ((1+1:Nat):Int)=_:=e2;rw [e2,qbw,qad (qab Gf),qaa];have hc:qpf c.told (3*s)=0+qld (qaw c.told (3*s+0))+qld (qaw c.told (3*s+1))+qld (qaw c.told (3*s+2)):=by unfold qpf;rw [D9];rfl
 rw [← hc];cases qag c.ops s
 ·rfl
 ·simp only [cond_true,Aq,qm3,qqz];by_cases h:qpf c.told (3*s)≥2
  ·rw [qac h,qab Gf];rfl
  ·rw [qab h,qac Gf];rfl
theorem q6z {fu:Nat} {c:GCase} (hf:7≤fu):qve fu c=some (qg8 c):=by
 obtain ⟨n,rfl⟩:∃ n,fu=n+4:=⟨fu-4,by omega⟩;unfold qve qg8;have e0:=qtt (c:=c) (rec:=qch (n+4) c (n+3)) (s:=0) Gf (n:=n);have e1:=qtt (c:=c) (rec:=qch (n+4) c (n+2)) (s:=1) Gf (n:=n);have e0:qbw c 0 (qch (n+4) c (n+3)) (n+4) 0 0=bif (qag c.ops 0 && !decide (qpf c.told 0≥2)) then some false else qch (n+4) c (n+3) (Gr (0+1)):=e0;have e1:qbw c 1 (qch (n+4) c (n+2)) (n+4) 0 0=bif (qag c.ops 1 && !decide (qpf c.told 3≥2)) then some false else qch (n+4) c (n+2) (Gr (1+1)):=e1;have w1:Gr (0+1)=1:=by rw [qa3 Gf Gf];rfl
 have w2:Gr (1+1)=2:=by rw [qa3 Gf Gf];rfl
 rw [qch,qae (by rfl),e0];cases hA:(qag c.ops 0 && !decide (qpf c.told 0≥2))
 ·rw [cond_false,w1,qch,qae (by rfl),e1];cases hB:(qag c.ops 1 && !decide (qpf c.told 3≥2))
  ·rw [cond_false,w2,qch,qad (by rfl)];revert hA hB;cases qag c.ops 0<;>cases qag c.ops 1<;>cases decide (qpf c.told 0≥2)<;>cases decide (qpf c.told 3≥2)<;>simp
  ·rw [cond_true];revert hB;cases qag c.ops 0<;>cases qag c.ops 1<;>cases decide (qpf c.told 0≥2)<;>cases decide (qpf c.told 3≥2)<;>simp
 ·rw [cond_true];revert hA;cases qag c.ops 0<;>cases qag c.ops 1<;>cases decide (qpf c.told 0≥2)<;>cases decide (qpf c.told 3≥2)<;>simp
def qbj (sh:Int) (c:GCase) (k v:Int):GCase :=
 bif (decide (k<(c.ops.length:Int))&&(((idx c.ops k).map fun o=>qa6 o.key==sh).getD false && !qaw c.has k.toNat)) then { c with has:=c.has.setIfInBounds k.toNat true,values:=c.values.setIfInBounds k.toNat v } else c
def qla (sh:Int):GCase→List Int→List Int→GCase
 | c,k::at_,v::vs=>qla sh (qbj sh c k v) at_ vs
 | c,_,_=>c
theorem ql2 {sh:Int} {c:GCase} {k v:Int}:(qbj sh c k v).ops=c.ops∧(qbj sh c k v).fixed=c.fixed∧(qbj sh c k v).begun=c.begun∧(qbj sh c k v).deps=c.deps∧(qbj sh c k v).told=c.told∧(qbj sh c k v).known=c.known:=by
 unfold qbj;cases (decide (k<(c.ops.length:Int))&&(((idx c.ops k).map fun o=>qa6 o.key==sh).getD false && !qaw c.has k.toNat))<;>exact ⟨rfl,rfl,rfl,rfl,rfl,rfl⟩
theorem doneL_same {sh:Int}:∀ {at_ vs:List Int} {c:GCase},(qla sh c at_ vs).ops=c.ops∧(qla sh c at_ vs).fixed=c.fixed∧(qla sh c at_ vs).begun=c.begun∧(qla sh c at_ vs).deps=c.deps∧(qla sh c at_ vs).told=c.told∧(qla sh c at_ vs).known=c.known
 | [],_,_=>by unfold qla;exact ⟨rfl,rfl,rfl,rfl,rfl,rfl⟩
 | _::_,[],_=>by unfold qla;exact ⟨rfl,rfl,rfl,rfl,rfl,rfl⟩
 | k::at_,v::vs,c=>by
  unfold qla;have h1:=doneL_same (sh:=sh) (at_:=at_) (vs:=vs) (c:=qbj sh c k v);have h2:=ql2 (sh:=sh) (c:=c) (k:=k) (v:=v);exact ⟨h1.1.trans h2.1,h1.2.1.trans h2.2.1,h1.2.2.1.trans h2.2.2.1,h1.2.2.2.1.trans h2.2.2.2.1,h1.2.2.2.2.1.trans h2.2.2.2.2.1,h1.2.2.2.2.2.trans h2.2.2.2.2.2⟩
structure AtOk (f:GFrame):Prop where
 len:f.at_.length=f.vals.length
 small:f.at_.length≤4
 mem:∀ n∈f.at_,0≤n∧n<4
theorem q4e {f:GFrame} (h:qaf f=0):AtOk f:=by
 have:=q5g h;obtain ⟨_,_,_,_,h1,h2,h3,_,_⟩:=this;exact ⟨h3.symm,h1,fun n hn=>by have:=h2 n hn;omega⟩
theorem qpg {f:GFrame} (hf:AtOk f):∀ (n m k:Nat) (c:GCase),f.at_.length=k+m→m<n→c.ops.length≤4→c.fixed=true→qbb f n c k=some (qla (ofZ f.node) c (f.at_.drop k) (f.vals.drop k),[],0)
 | 0,m,k,c,_,h,_,_=>absurd h Gf
 | n+1,0,k,c,hk,_,_,_=>by
  rw [qbb,qad (qab Gf),List.drop_of_length_le Gf,qaa];rfl
 | n+1,m+1,k,c,hk,hn,hc,hfx=>by
  have hlt:k<f.at_.length:=by omega
  have hlv:k<f.vals.length:=by have:=hf.len;omega
  have ih:=fun c h1 h2=>qpg hf n m (k+1) c Gf Gf h1 h2;have hw:Gr ((k:Int)+1)=((k+1:Nat):Int):=by have:=hf.small;rw [qa3 Gf Gf];omega
  rw [qbb,qae (qac Gf),qap,List.getElem?_eq_getElem hlt,qaa,qae hfx,List.drop_eq_getElem_cons hlt,List.drop_eq_getElem_cons hlv];have hx:=hf.mem f.at_[k] (List.getElem_mem _);simp only [qeb,qg3,hw,qla];generalize f.at_[k]=x at hx;have hd:=ql2 (sh:=ofZ f.node) (c:=c) (k:=x) (v:=f.vals[k]);have ihd:=ih (qbj (ofZ f.node) c x f.vals[k]) (by rw [hd.1];exact hc) (by rw [hd.2.1];exact hfx);by_cases h1:x<(c.ops.length:Int)
  ·obtain ⟨o,ho⟩:∃ o,idx c.ops x=some o:=by
    unfold idx;rw [if_pos hx.1];exact ⟨_,X7 Gf⟩
   rw [qae (qac h1),ho,qaa,qaa,qaa];cases h2:(qa6 o.key==ofZ f.node)
   ·rw [← ihd];simp only [cond_false,qbj,ho,Ak,Am,h2,Da,Eb]
   ·rw [qae (by rfl),qaj hx.1 hx.2,qaa,qp7 hx.1 hx.2,qaa];cases h3:qaw c.has x.toNat
    ·rw [← ihd];have e:qbj (ofZ f.node) c x f.vals[k]={ c with has:=c.has.setIfInBounds x.toNat true,values:=c.values.setIfInBounds x.toNat f.vals[k] }:=by
      simp only [qbj,ho,Ak,Am,h2,h3,qac h1,Ap,Aq,cond_true]
     rw [e];simp only [Ap,cond_true];rw [qap,X7 hlv,qaa,qaa,qar hx.1 hx.2,qaa,qaa,qaa,qz7 hx.1 hx.2,qaa,qar hx.1 hx.2,qaa];rfl
    ·rw [← ihd];simp only [Aj,cond_false,qbj,ho,Ak,Am,h2,h3,Eb]
  ·rw [qad (qab h1),← ihd];simp only [cond_false,qbj,qab h1,Da]
theorem qph {f:GFrame} (hf:AtOk f):∀ (n m k:Nat) (c:GCase),f.at_.length=k+m→m<n→c.fixed=false→qbb f n c k=some (c,[],0)
 | 0,m,k,c,_,h,_=>absurd h Gf
 | n+1,0,k,c,hk,_,_=>by rw [qbb,qad (qab Gf),qaa]
 | n+1,m+1,k,c,hk,hn,hfx=>by
  have hlt:k<f.at_.length:=by omega
  have ih:=qph hf n m (k+1) c Gf Gf hfx;have hw:Gr ((k:Int)+1)=((k+1:Nat):Int):=by have:=hf.small;rw [qa3 Gf Gf];omega
  rw [qbb,qae (qac Gf),qap,X7 hlt,qaa,qad hfx];simp only [qeb,qg3,hw,cond_false];exact ih
def ql3 (c:GCase) (f:GFrame):GCase:={ c with told:=c.told.setIfInBounds f.node.toNat true,deps:=qmd c.deps f.deps }
def q4f (c:GCase):GCase:={ c with fixed:=qg8 c }
def qpi (c:GCase) (id:Int) (f:GFrame):GCase × List GFrame × Int :=
 bif f.kind==2 then
  bif c.fixed||(qaw c.told f.node.toNat || !qag c.ops (ofZ f.node)) then (c,[],0)
  else (q4f (ql3 c f),(bif (q4f (ql3 c f)).fixed then qj6 (q4f (ql3 c f)) id else []),0)
 else bif f.kind==4 then (bif c.fixed then ({ c with known:=c.known.setIfInBounds f.node.toNat true },[],0) else (c,[],0))
 else bif f.kind==5 then (bif c.fixed then (qla (ofZ f.node) c f.at_ f.vals,[],0) else (c,[],0))
 else (c,[],3)
def qxa (c:GCase) (id:Int) (f:GFrame):Bool:=qdz c&&(c.begun&&(f.id==id && !qcx c.deps id))
def qby (c:GCase) (id:Int) (f:GFrame):GCase × List GFrame × Int :=
 bif qxa c id f then (bif qaf f==0 then qpi c id f else (c,[],qaf f)) else (c,[],2)
theorem q2d {fu:Nat} {c:GCase} {id:Int} {f:GFrame} (hf:7≤fu):qm4 fu c id f=some (qby c id f):=by
 unfold qm4 qby qxa qfb;rw [qnm];simp only [qaa];cases hg:qdz c
 ·rfl
 ·cases hb:c.begun
  ·rfl
  ·by_cases hid:f.id=id
   ·have e1:(f.id != id)=false:=by simp [hid]
    have e2:(f.id==id)=true:=by simp [hid]
    rw [e1,e2];cases hh:qcx c.deps id
    ·simp only [Aj,Ap,Gc,cond_true,cond_false,qlv,qaa];by_cases hz:qaf f=0
     ·have hin:=qds hz;have hat:=q4e hz;have hl:=ql0 hg hb;have e3:(qaf f != 0)=false:=by simp [hz]
      have e4:(qaf f==0)=true:=by simp [hz]
      rw [e3,e4];simp only [cond_false,cond_true,qpi];cases hk2:(f.kind==2)
      ·simp only [cond_false];cases hk4:(f.kind==4)
       ·simp only [cond_false];cases hk5:(f.kind==5)
        ·rfl
        ·simp only [cond_true];cases hfx:c.fixed
         ·exact qph hat fu f.at_.length 0 c Gf (by have:=hat.small;omega) hfx
         ·exact qpg hat fu f.at_.length 0 c Gf (by have:=hat.small;omega) hl hfx
       ·simp only [cond_true];cases hfx:c.fixed
        ·rfl
        ·simp only [cond_true];rw [qaj hin.2.1.1 hin.2.1.2,qaa,qp7 hin.2.1.1 hin.2.1.2,qaa,qar hin.2.1.1 hin.2.1.2,qaa];rfl
      ·simp only [cond_true];cases hfx:c.fixed
       ·simp only [cond_false,Bi];rw [qaj hin.2.1.1 hin.2.1.2,qaa,qp7 hin.2.1.1 hin.2.1.2,qaa];cases ht:qaw c.told f.node.toNat
        ·simp only [cond_false,Bi,qaa,qg2];cases hto:qag c.ops (ofZ f.node)
         ·rfl
         ·simp only [Aj,cond_false,qlt];rw [qaj hin.2.1.1 hin.2.1.2,qaa,qp7 hin.2.1.1 hin.2.1.2,qaa,qar hin.2.1.1 hin.2.1.2,qaa,qaa,qaa,qaa,q6z hf,qaa,qaa];have e5:({ c with told:=c.told.setIfInBounds f.node.toNat true,deps:=qmd c.deps f.deps,fixed:=qg8 (ql3 c f) }:GCase)=q4f (ql3 c f):=rfl;have e6:(q4f (ql3 c f)).fixed=qg8 (ql3 c f):=rfl;have ha:=qv9 (c:=q4f (ql3 c f)) (id:=id) hf;cases he:qg8 (ql3 c f)
          ·rw [he] at e5 e6;rw [e6];have he':qg8 { c with told:=c.told.setIfInBounds f.node.toNat true,deps:=qmd c.deps f.deps }=false:=he;rw [he'];simp only [Ap,cond_true,cond_false,qaa];rw [← e5]
          ·rw [he] at e5 e6;rw [e6];have he':qg8 { c with told:=c.told.setIfInBounds f.node.toNat true,deps:=qmd c.deps f.deps }=true:=he;rw [he'];simp only [Aj,cond_true,cond_false,qaa];rw [← e5] at ha ⊢;rw [ha];rfl
        ·rfl
       ·rfl
     ·have e3:(qaf f != 0)=true:=by simp [hz]
      have e4:(qaf f==0)=false:=by simp [hz]
      rw [e3,e4];rfl
    ·rfl
   ·have e1:(f.id != id)=true:=by simp [hid]
    have e2:(f.id==id)=false:=by simp [hid]
    rw [e1,e2];rfl
theorem q2e {c:GCase} {id:Int} {f:GFrame}:(qpi c id f).1.ops=c.ops∧(qpi c id f).2.1.length≤6∧∀ x∈(qpi c id f).2.1,x.ops.length≤4:=by
 unfold qpi;cases (f.kind==2)
 ·cases (f.kind==4)
  ·cases (f.kind==5)
   ·exact ⟨rfl,Ao _,by simp⟩
   ·cases c.fixed
    ·exact ⟨rfl,Ao _,by simp⟩
    ·exact ⟨doneL_same.1,Ao _,by simp⟩
  ·cases c.fixed
   ·exact ⟨rfl,Ao _,by simp⟩
   ·exact ⟨rfl,Ao _,by simp⟩
 ·cases (c.fixed||(qaw c.told f.node.toNat || !qag c.ops (ofZ f.node)))
  ·cases (q4f (ql3 c f)).fixed
   ·exact ⟨rfl,Ao _,by simp⟩
   ·exact ⟨rfl,againC_small.1,againC_small.2⟩
  ·exact ⟨rfl,Ao _,by simp⟩
theorem qwa {c:GCase} {id:Int} {f:GFrame}:(qby c id f).1.ops=c.ops∧(qby c id f).2.1.length≤6∧∀ x∈(qby c id f).2.1,x.ops.length≤4:=by
 unfold qby;cases qxa c id f
 ·exact ⟨rfl,Ao _,by simp⟩
 ·cases (qaf f==0)
  ·exact ⟨rfl,Ao _,by simp⟩
  ·exact q2e
abbrev Bd := @Vector.setIfInBounds_setIfInBounds
def vat (v:Vector Int 8) (k:Nat):Int:=v[k]?.getD 0
theorem zdw {v:Vector Int 8} {j:Int} (h0:0≤j) (h1:j<8):qam v j=some (vat v j.toNat):=qz7 h0 h1
theorem zdx {v:Vector Int 8} {k j:Nat} {x:Int} (hk:k<8):vat (v.setIfInBounds k x) j=if k=j then x else vat v j:=by
 unfold vat;rw [Vector.getElem?_setIfInBounds];by_cases e:k=j
 ·rw [if_pos e,if_pos e,if_pos hk];rfl
 ·rw [if_neg e,if_neg e]
theorem qd0 {v:Vector GEntry 32} {k j:Nat} {x:GEntry} (hk:k<32):eat (v.setIfInBounds k x) j=if k=j then x else eat v j:=by
 unfold eat;rw [Vector.getElem?_setIfInBounds];by_cases e:k=j
 ·rw [if_pos e,if_pos e,if_pos hk];rfl
 ·rw [if_neg e,if_neg e]
theorem zdy {v:Vector GEntry 32} {k:Nat} {x:GEntry} (hk:k<32):qdc v (k:Int) x=some (v.setIfInBounds k x):=qar Gf Gf
def qg9 (sh:Int):Nat→List GOp→Vector Int 8→List Int→List Int→Vector Int 8 × List Int × List Int
 | _,[],v,a,b=>(v,a,b)
 | i,o::t,v,a,b=>bif qa6 o.key==sh then qg9 sh (i+1) t (v.setIfInBounds o.key.toNat (doZ (vat v o.key.toNat) o)) (a++[(i:Int)]) (b++[doZ (vat v o.key.toNat) o]) else qg9 sh (i+1) t v a b
def qh2 (e:GEntry) (a b:List Int):GEntry:={ e with state:=3,at_:=a,values:=b }
def qwb (s:GNode) (n:Nat) (v:Vector Int 8) (a b:List Int):GNode:={ entries:=s.entries.setIfInBounds n (qh2 (eat s.entries n) a b),order:=s.order,values:=v }
def zdz (s:GNode) (n:Nat) (sh:Int):GNode :=
 { entries:=s.entries.setIfInBounds n (qh2 (eat s.entries n) (qg9 sh 0 (eat s.entries n).ops s.values [] []).2.1 (qg9 sh 0 (eat s.entries n).ops s.values [] []).2.2),order:=s.order++[(n:Int)],values:=(qg9 sh 0 (eat s.entries n).ops s.values [] []).1 }
theorem q5m {s:GNode} {n:Nat} {v:Vector Int 8} {a b a' b':List Int} {e:GEntry} (he:e=qh2 (eat s.entries n) a' b'):({ entries:=(qwb s n v a b).entries.setIfInBounds n e,order:=(qwb s n v a b).order,values:=(qwb s n v a b).values }:GNode)=qwb s n v a' b':=by
 unfold qwb;simp only [Bd,he]
theorem zd0 {s:GNode} {n:Nat} {v:Vector Int 8} {a b a':List Int} :
 ({ entries:=(qwb s n v a b).entries.setIfInBounds n { state:=(qh2 (eat s.entries n) a b).state,ops:=(qh2 (eat s.entries n) a b).ops,first:=(qh2 (eat s.entries n) a b).first,deps:=(qh2 (eat s.entries n) a b).deps,at_:=a',values:=(qh2 (eat s.entries n) a b).values },order:=(qwb s n v a b).order,values:=v }:GNode)=qwb s n v a' b:=q5m rfl
theorem zd1 {s:GNode} {n:Nat} {v:Vector Int 8} {a b b':List Int} :
 ({ entries:=(qwb s n v a b).entries.setIfInBounds n { state:=(qh2 (eat s.entries n) a b).state,ops:=(qh2 (eat s.entries n) a b).ops,first:=(qh2 (eat s.entries n) a b).first,deps:=(qh2 (eat s.entries n) a b).deps,at_:=(qh2 (eat s.entries n) a b).at_,values:=b' },order:=(qwb s n v a b).order,values:=(qwb s n v a b).values }:GNode)=qwb s n v a b':=q5m rfl
theorem q5n {s:GNode} {n:Nat} (hn:n<32) {v:Vector Int 8} {a b:List Int}:eat (qwb s n v a b).entries n=qh2 (eat s.entries n) a b:=by
 unfold qwb;rw [qd0 hn,if_pos rfl]
def KeyOk (l:List GOp):Prop:=∀ o∈l,0≤o.key∧o.key<8
theorem KeyOk.of {l:List GOp} (h:qak l=true):KeyOk l:=fun o ho=>by have:=qvn h o ho;omega
theorem qrw {s:GNode} {n:Nat} (hn:n<32) {sh:Int} {e0:GEntry} (he:e0=qh2 (eat s.entries n) [] []) (hk:KeyOk (eat s.entries n).ops) (hl:(eat s.entries n).ops.length≤4) (ho:s.order.length≤1000):∀ (q m k:Nat) (v:Vector Int 8) (a b:List Int),(eat s.entries n).ops.length=k+m→m<q→a.length≤k→b.length=a.length →
 qc5 n sh e0 q (qwb s n v a b) k=some { qwb s n (qg9 sh k ((eat s.entries n).ops.drop k) v a b).1 (qg9 sh k ((eat s.entries n).ops.drop k) v a b).2.1 (qg9 sh k ((eat s.entries n).ops.drop k) v a b).2.2 with order:=s.order++[(n:Int)] }
 | 0,m,k,v,a,b,_,h,_,_=>absurd h Gf
 | q+1,0,k,v,a,b,hkm,_,_,_=>by
  have hb:Rep.bytes Int=8:=rfl;have hord:(qwb s n v a b).order=s.order:=rfl;have e1:e0.ops=(eat s.entries n).ops:=by rw [he];rfl
  rw [qc5,e1,qad (qab Gf),Bz Gf,qas (by rw [hb,hord];simp only [At];omega)];rfl
 | q+1,m+1,k,v,a,b,hkm,hq,ha,hbl=>by
  have hb:Rep.bytes Int=8:=rfl;have hlt:k<(eat s.entries n).ops.length:=by omega
  have hx:(eat s.entries n).ops[k]? = some (eat s.entries n).ops[k]:=X7 hlt;have hkey:=hk _ (A2 hlt);have e0:e0.ops=(eat s.entries n).ops:=by rw [he];rfl
  have ih:=fun v a b ha hb=>qrw hn (sh:=sh) he hk hl ho q m (k+1) v a b Gf Gf ha hb;rw [qc5,e0,qae (qac Gf),qap,hx,qaa,qaa,qaa,Ad hlt];simp only [qok,qkz,wrs k Gf,qg9];generalize (eat s.entries n).ops[k]=o at hkey;cases h1:(qa6 o.key==sh)
  ·rw [cond_false,cond_false,ih v a b Gf hbl]
  ·have hv:(qwb s n v a b).values=v:=rfl;rw [cond_true,cond_true,qaj hkey.1 hkey.2,qaa,hv,zdw hkey.1 hkey.2,qaa,qaa,qaa,qaa,qar hkey.1 hkey.2,qaa,qaa];have hm:({ entries:=(qwb s n v a b).entries,order:=(qwb s n v a b).order,values:=v.setIfInBounds o.key.toNat (doZ (vat v o.key.toNat) o) }:GNode)=qwb s n (v.setIfInBounds o.key.toNat (doZ (vat v o.key.toNat) o)) a b:=rfl;rw [hm];generalize hv2:v.setIfInBounds o.key.toNat (doZ (vat v o.key.toNat) o)=v2;have hvv:vat v2 o.key.toNat=doZ (vat v o.key.toNat) o:=by rw [← hv2,zdx Gf,if_pos rfl]
   have hv':(qwb s n v2 a b).values=v2:=rfl;rw [qsx hn,qaa,qaa,qaa,hv',zdw hkey.1 hkey.2,qaa,q5n hn,hvv];have e1:(qh2 (eat s.entries n) a b).at_=a:=rfl;have e2:(qh2 (eat s.entries n) a b).values=b:=rfl;rw [e1,e2,qas (by rw [hb];simp only [At];omega),qaa,qas (by rw [hb];simp only [At];omega),qaa,qaa,zdy hn,qaa,qaa];rw [zd0,qsx hn,qaa,q5n hn,zdy hn,qaa,qaa,zd1];exact ih v2 _ _ (by simp;omega) (by simp [hbl])
theorem q4g {fu:Nat} {s:GNode} {n:Nat} (hn:n<32) {sh:Int} (hk:KeyOk (eat s.entries n).ops) (hl:(eat s.entries n).ops.length≤4) (ho:s.order.length≤1000) (hfu:5≤fu):qqu fu s n sh=some (zdz s n sh):=by
 unfold qqu;have h:=qrw hn (sh:=sh) (e0:=qh2 (eat s.entries n) [] []) rfl hk hl ho fu (eat s.entries n).ops.length 0 s.values [] [] Gf Gf (by simp) rfl;have h:qc5 n sh (qh2 (eat s.entries n) [] []) fu (qwb s n s.values [] []) 0=some (zdz s n sh):=h;have e1:∀ (x:GEntry),({ s with entries:=s.entries.setIfInBounds n x }:GNode).entries=s.entries.setIfInBounds n x:=fun _=>rfl;rw [qaj Gf Gf,qaa,qsx hn,qaa,zdy hn,qaa,qaa];rw [e1,qsx hn,qaa,qd0 hn,if_pos rfl,zdy hn,qaa,qaa];simp only [Bd];rw [qsx hn,qaa,qd0 hn,if_pos rfl,zdy hn,qaa,qaa];simp only [Bd];rw [qsx hn,qaa,qd0 hn,if_pos rfl];rw [← h];rfl
theorem qmj {s:GNode} {n:Nat} (hn:n<32) {sh:Int} {e0 e:GEntry} (he:e0=qh2 e [] []) (hk:KeyOk e.ops) (hl:e.ops.length≤4) (ho:s.order.length≤1000):∀ (q m k:Nat) (v:Vector Int 8) (a b:List Int),e.ops.length=k+m→m<q→a.length≤k→b.length=a.length →
 qbu n sh e0 q (qh2 e a b) { s with values:=v } k=some { entries:=s.entries.setIfInBounds n (qh2 e (qg9 sh k (e.ops.drop k) v a b).2.1 (qg9 sh k (e.ops.drop k) v a b).2.2),order:=s.order++[(n:Int)],values:=(qg9 sh k (e.ops.drop k) v a b).1 }
 | 0,m,k,v,a,b,_,h,_,_=>absurd h Gf
 | q+1,0,k,v,a,b,hkm,_,_,_=>by
  have hb:Rep.bytes Int=8:=rfl;have e1:e0.ops=e.ops:=by rw [he];rfl
  rw [qbu,e1,qad (qab Gf),Bz Gf,qaj Gf Gf,qaa,qsx hn,qaa,zdy hn,qaa,qaa,qas (by rw [hb];simp only [At];omega)];rfl
 | q+1,m+1,k,v,a,b,hkm,hq,ha,hbl=>by
  have hb:Rep.bytes Int=8:=rfl;have e1:e0.ops=e.ops:=by rw [he];rfl
  have hlt:k<e.ops.length:=by omega
  have hx:e.ops[k]? = some e.ops[k]:=X7 hlt;have hkey:=hk _ (A2 hlt);have ih:=fun v a b ha hb=>qmj hn (sh:=sh) he hk hl ho q m (k+1) v a b Gf Gf ha hb;rw [qbu,e1,qae (qac Gf),qap,hx,qaa,qaa,qaa,Ad hlt];simp only [qin,qf8,wrs k Gf,qg9];generalize e.ops[k]=o at hkey;have hne:(qa6 o.key != sh) = !(qa6 o.key==sh):=rfl;rw [hne];cases h1:(qa6 o.key==sh)
  ·rw [Ap,cond_true,cond_false,ih v a b Gf hbl]
  ·rw [Aj,cond_false,cond_true,qaj hkey.1 hkey.2,qaa,zdw hkey.1 hkey.2,qaa,qaa,qaa,qaa,qar hkey.1 hkey.2,qaa,qaa];have e2:(qh2 e a b).at_=a:=rfl;have e3:(qh2 e a b).values=b:=rfl;rw [e2,e3,qas (by rw [hb];simp only [At];omega),qaa,qas (by rw [hb];simp only [At];omega),qaa,qaa,qaa];exact ih _ _ _ (by simp;omega) (by simp [hbl])
theorem qxb {fu:Nat} {s:GNode} {n:Nat} (hn:n<32) {sh:Int} (hk:KeyOk (eat s.entries n).ops) (hl:(eat s.entries n).ops.length≤4) (ho:s.order.length≤1000) (hfu:5≤fu):qjp fu s n sh=some (zdz s n sh):=by
 unfold qjp;rw [qaj Gf Gf,qaa,qsx hn,qaa,qaa,qaa,qaa,qaa];have h:=qmj (s:=s) hn (sh:=sh) (e:=eat s.entries n) rfl hk hl ho fu (eat s.entries n).ops.length 0 s.values [] [] Gf Gf (by simp) rfl;exact h
theorem q9t {m:Int}:∀ {l:List Int} {b b':Int},b'≤b→qz3 m b l=true→qz3 m b' l=true
 | [],_,_,_,_=>rfl
 | x::t,b,b',h,ha=>by
  unfold qz3 at *;simp only [Bool.and_eq_true,decide_eq_true_eq] at *;exact ⟨⟨by omega,ha.1.2⟩,ha.2⟩
theorem qz8 {sh:Int}:∀ (l:List GOp) (i:Nat) (v:Vector Int 8) (a b:List Int),∃ L,(qg9 sh i l v a b).2.1=a++L∧qz3 ((i+l.length:Nat):Int) ((i:Int)-1) L=true∧(qg9 sh i l v a b).2.2.length=b.length+L.length
 | [],i,v,a,b=>⟨[],by simp [qg9],rfl,by simp [qg9]⟩
 | o::t,i,v,a,b=>by
  unfold qg9;cases h:(qa6 o.key==sh)
  ·obtain ⟨L,h1,h2,h3⟩:=qz8 t (i+1) v a b;rw [cond_false];refine ⟨L,h1,?_,h3⟩;rw [show i+(o::t).length=i+1+t.length from by simp;omega];exact q9t Gf h2
  ·obtain ⟨L,h1,h2,h3⟩:=qz8 t (i+1) (v.setIfInBounds o.key.toNat (doZ (vat v o.key.toNat) o)) (a++[(i:Int)]) (b++[doZ (vat v o.key.toNat) o]);rw [cond_true];refine ⟨(i:Int)::L,by rw [h1];simp,?_,by rw [h3];simp;omega⟩;rw [show i+(o::t).length=i+1+t.length from by simp;omega];unfold qz3;simp only [X9,decide_eq_true_eq];refine ⟨⟨by omega,by omega⟩,?_⟩;rw [show (i:Int)=((i+1:Nat):Int)-1 from by omega];exact h2
theorem entryOk_iff {k:Int} {e:GEntry} {t:Bool}:qg7 k e t=true↔(0≤e.state∧e.state≤3)∧(e.state=3↔t=true)∧qtn k e=true:=by
 unfold qg7;simp only [X9,decide_eq_true_eq];refine and_congr_right fun _=>and_congr_left fun _=>?_;cases t<;>simp
structure Body (k:Int) (e:GEntry):Prop where
 ops:qak e.ops=true
 first:qan e.first=true
 deps:qan e.deps=true
 nfirst:qcx e.first k=false
 ndeps:qcx e.deps k=false
 asked:e.state=1→e.deps=[]
 undone:e.state≠3→e.at_=[]
 same:e.at_.length=e.values.length
 up:qz3 e.ops.length (-1) e.at_=true
theorem body_iff {k:Int} {e:GEntry}:qyi k e=true↔Body k e:=by
 unfold qyi;simp only [X9,Dt];constructor
 ·rintro ⟨h1,h2,h3,h4,h5,h6,h7,h8,h9⟩;refine ⟨h1,h2,h3,h4,h5,fun h=>?_,fun h=>?_,?_,h9⟩
  ·rw [h] at h6;simpa using h6
  ·have:(e.state != 3)=true:=by simpa using h
   rw [this] at h7;simpa using h7
  ·simp only [bne_eq_false_iff_eq] at h8;omega
 ·rintro ⟨h1,h2,h3,h4,h5,h6,h7,h8,h9⟩;refine ⟨h1,h2,h3,h4,h5,?_,?_,?_,h9⟩
  ·by_cases h:e.state=1
   ·rw [h6 h];simp
   ·simp [h]
  ·by_cases h:e.state=3
   ·rw [h];rfl
   ·rw [h7 h];simp
  ·simp only [bne_eq_false_iff_eq];omega
theorem GoodN.body {s:GNode} (h:GoodN s) {k:Nat} (hk:k<32) (h0:(eat s.entries k).state≠0):Body k (eat s.entries k):=by
 have:=(entryOk_iff.1 (h.ent k hk)).2.2;unfold qtn at this;rw [qad (by simpa using h0)] at this;exact body_iff.1 this
theorem GoodN.state {s:GNode} (h:GoodN s) {k:Nat} (hk:k<32):0≤(eat s.entries k).state∧(eat s.entries k).state≤3:=(entryOk_iff.1 (h.ent k hk)).1
theorem GoodN.done {s:GNode} (h:GoodN s) {k:Nat} (hk:k<32):(eat s.entries k).state=3↔(k:Int)∈s.order:=by
 rw [(entryOk_iff.1 (h.ent k hk)).2.1];simp
theorem emptyE_iff {e:GEntry}:qrs e=true↔e.ops=[]∧e.first=[]∧e.deps=[]∧e.at_=[]∧e.values=[]:=by
 unfold qrs;simp [A0]
theorem GoodN.empty {s:GNode} (h:GoodN s) {k:Nat} (hk:k<32) (h0:(eat s.entries k).state=0):(eat s.entries k).ops=[]∧(eat s.entries k).first=[]∧(eat s.entries k).deps=[]∧(eat s.entries k).at_=[]∧(eat s.entries k).values=[]:=by
 have:=(entryOk_iff.1 (h.ent k hk)).2.2;unfold qtn at this;rw [qae (by simpa using h0)] at this;exact emptyE_iff.1 this
theorem qz9 {l:List Int} (h:l.Nodup) (hr:∀ m∈l,0≤m∧m<32):l.length≤32:=by
 have h1:(l.map Int.toNat).Nodup:=by
  refine List.pairwise_map.2 (h.imp_of_mem fun {a b} ha hb hab=>?_);have:=hr a ha;have:=hr b hb;omega
 have:=qnl 32 (l.map Int.toNat) h1 fun x hx=>by
  obtain ⟨y,hy,rfl⟩:=Em.1 hx;have:=hr y hy;omega
 simpa using this
theorem GoodN.len {s:GNode} (h:GoodN s):s.order.length≤32:=qz9 h.nodup h.inr
theorem GoodN.set {s t:GNode} (h:GoodN s) {n:Nat} (hn:n<32) {e:GEntry} (he:t.entries=s.entries.setIfInBounds n e) (ho:t.order=s.order) (h3:(eat s.entries n).state≠3) (h1:1≤e.state∧e.state≤2) (hb:Body n e):GoodN t:=by
 refine ⟨by rw [ho];exact h.nodup,by rw [ho];exact h.inr,fun k hk=>?_⟩;rw [he,ho,qd0 hn];by_cases e':n=k
 ·subst e';rw [if_pos rfl];refine entryOk_iff.2 ⟨by omega,⟨fun h=>by omega,fun hm=>?_⟩,?_⟩
  ·exact absurd ((h.done hn).2 (by simpa using hm)) h3
  ·unfold qtn;rw [qad (by simp;omega)];exact body_iff.2 hb
 ·rw [if_neg e'];exact h.ent k hk
theorem GoodN.one {s:GNode} (h:GoodN s) {n:Nat} (hn:n<32) (h2:(eat s.entries n).state=2) (sh:Int):GoodN (zdz s n sh):=by
 have hb:=h.body hn Gf;have hno:(n:Int)∉s.order:=fun hm=>by have:=(h.done hn).2 hm;omega
 refine ⟨?_,?_,fun k hk=>?_⟩
 ·refine Du.2 ⟨h.nodup,by simp,fun a ha b hb=>?_⟩;rw [Ag.1 hb];rintro rfl;exact hno ha
 ·intro m hm;rcases Al.1 hm with hm | hm
  ·exact h.inr m hm
  ·rw [Ag.1 hm];omega
 ·show qg7 k (eat (s.entries.setIfInBounds n _) k) (decide ((k:Int)∈s.order++[(n:Int)]))=true;rw [qd0 hn];by_cases e':n=k
  ·subst e';rw [if_pos rfl];obtain ⟨L,a1,a2,a3⟩:=qz8 (sh:=sh) (eat s.entries n).ops 0 s.values [] [];refine entryOk_iff.2 ⟨(show (0:Int)≤3∧(3:Int)≤3 by decide),⟨fun _=>by simp,fun _=>rfl⟩,?_⟩;show (bif false then _ else qyi _ _)=true;rw [cond_false];refine body_iff.2 ⟨hb.ops,hb.first,hb.deps,hb.nfirst,hb.ndeps,fun h=>?_,fun h=>absurd rfl h,?_,?_⟩
   ·have:(3:Int)=1:=h;omega
   ·show (qg9 sh 0 (eat s.entries n).ops s.values [] []).2.1.length=(qg9 sh 0 (eat s.entries n).ops s.values [] []).2.2.length;rw [a1,a3];simp
   ·show qz3 _ (-1) (qg9 sh 0 _ s.values [] []).2.1=true;rw [a1,Av];rw [B7] at a2;exact a2
  ·rw [if_neg e'];have:decide ((k:Int)∈s.order++[(n:Int)])=decide ((k:Int)∈s.order):=by
    apply decide_eq_decide.2;simp only [Al,Ag];constructor
    ·rintro (h | h)
     ·exact h
     ·omega
    ·exact .inl
   rw [this];exact h.ent k hk
open Go.RowKit Go.ChangeShapes Go.WideShapes Go.ChangeAt Go.Deep
section
variable {H:Type} {enc:TypeId × Value→H} {P:Program} {w:World}
theorem qpj {P:Program} {e:TypeId}:∀ {ds:List (DataW H)} {d:DataW H},d∈ds→∀ n∈d.weights P e,n∈DataW.weightsAll P e ds
 | d0::ds,d,hd,n,hn=>by
  simp only [DataW.weightsAll,List.mem_append];rcases List.mem_cons.1 hd with h | h
  ·subst h;exact .inl hn
  ·exact .inr (qpj h n hn)
end
def wholeM (w:World):Mm:=fun b=>match w.heap[b]? with | some (.cells arr _ _)=>some arr.toList | _=>none
theorem wholeM_agree (w:World):Agree (wholeM w) w:=fun b p hb=>by
 unfold wholeM at hb;split at hb
 ·rename_i arr t fr hh;cases hb;exact ⟨arr,t,fr,hh,B3 _⟩
 ·cases hb
theorem qwc {H:Type} {P:Program} {ts:List TypeId} {ds:List (DataW H)} {j:Nat} {t:TypeId} {d:DataW H} (ht:ts[j]? = some t) (hd:ds[j]? = some d):∀ n∈d.weights P t,n∈DataW.weightsEach P ts ds:=DataW.weights_mem_each ht hd
def Opn (P:Program) (t:TypeId) (α : Type) [Rep α]:Prop :=
 P.cellsOf t=Rep.k α ∧ ∀ (H:Type) (enc:TypeId × Value→H) (w:World) (fuel:Nat) (cs:List Value) (d:DataW H) (p:List MemPlace),
  DataW.trod enc P w 0 (fun _=>true) true fuel t cs=some (d,p)→(∀ n∈d.weights P t,n≤reachBytes)→∃ x : α,rep (wholeM w) cs x
section
variable {P:Program} {t e:TypeId} {α : Type} [Rep α]
theorem zd2 (ht:P.underlying t=some (.int .i64)) (hc:P.cellsOf t=1):Opn P t Int:=⟨hc,fun H enc w fuel cs d p h hw=>by
 obtain ⟨n,rfl,_,_⟩:=DataW.trod_int ht h
 exact ⟨n,rfl⟩⟩
theorem zch (a:Addr) (i:Nat):(a.add i).block=a.block∧(a.add i).off=a.off+i:=by
 unfold Addr.add;split
 ·rename_i h;exact ⟨rfl,by rw [show i=0 by simpa using h];rfl⟩
 ·exact ⟨rfl,rfl⟩
theorem q4h {w:World} {a:Addr} {k:Nat} {cs:List Value} (h:w.cells? 0 a k=some cs) (hk:0<k) :
 a.spot=none∧∃ q,wholeM w a.block=some q∧a.off+k≤q.length∧sl q a.off k=cs:=by
 obtain ⟨_,hl,hat⟩:=World.cells?_some h;have h0:=hat 0 hk;rw [X7 Gf] at h0;have hsp:a.spot=none:=by
  have:=World.cell?_spot h0;simpa [Addr.add] using this
 refine ⟨hsp,?_⟩;have hc:∀ i,i<k→∃ arr tt fr,w.heap[a.block]? = some (.cells arr tt fr)∧arr[a.off+i]? = cs[i]? := by
  intro i hi;have hi':=hat i hi;rw [X7 Gf] at hi' ⊢;unfold World.cell? at hi';split at hi'
  ·rename_i arr tt fr hh;rw [(zch a i).1] at hh;refine ⟨arr,tt,fr,hh,?_⟩;split at hi'
   ·cases hi'
   ·rw [(zch a i).2] at hi';exact hi'
  ·cases hi'
 obtain ⟨arr,tt,fr,hh,_⟩:=hc 0 hk;have hall:∀ i,i<k→arr[a.off+i]? = cs[i]? := by
  intro i hi;obtain ⟨arr',tt',fr',hh',he⟩:=hc i hi;rw [hh] at hh';cases hh';exact he
 have hlen:a.off+k≤arr.size:=by
  have:=hall (k-1) Gf;rw [X7 Gf] at this;have:=(Bo.1 this).1;omega
 refine ⟨arr.toList,by simp [wholeM,hh],by simpa using hlen,?_⟩;refine qpr fun j=>?_;by_cases hj:j<k
 ·rw [qhj _ _ _ _ hj];simpa using hall j hj
 ·rw [qb2 _ _ _ _ Gf,Bt Gf]
theorem q2f (ht:P.underlying t=some (.slice e)) (hc:P.cellsOf t=1) (he:Opn P e α) (hk:0<Rep.k α) (hby:P.bytesOf e=Rep.bytes α):Opn P t (List α):=⟨hc,fun H enc w fuel cs d p h hw=>by
 rcases open_slice ht h with ⟨rfl,hx⟩ | ⟨a,len,cap,m,n,D,Pl,rfl,_,hl,hm,hmm,hx,hel⟩
 ·exact ⟨[],_,rfl,qqf _⟩
 ·simp only [if_true] at hmm
  subst hmm
  simp only [Prod.mk.injEq] at hx
  rw [hx.1] at hw
  simp only [DataW.weights,ht,hby,List.mem_cons,List.mem_append,List.length_map,List.length_range] at hw
  have hw1:=hw _ (.inl rfl)
  unfold reachBytes at hw1
  have hone:∀ i,i<len→∃ x : α,∃ b off q,a.add (i*Rep.k α)=⟨b,off,none⟩∧wholeM w b=some q∧off+Rep.k α ≤ q.length∧rep (wholeM w) (sl q off (Rep.k α)) x:=by
   intro i him
   obtain ⟨cs',h1,h2⟩:=hel i Gf
   rw [he.1] at h1
   obtain ⟨hsp,q,hq,hlq,hsl⟩:=q4h h1 hk
   obtain ⟨x,hxr⟩:=he.2 H enc w n cs' (D i) (Pl i) h2 fun nn hnn=>hw nn (.inr (.inl (qpj (Em.2 ⟨i,A9.2 him,rfl⟩) _ hnn)))
   refine ⟨x,_,_,q,?_,hq,hlq,by rw [hsl];exact hxr⟩
   rw [← hsp]
  by_cases hz:len=0
  ·subst hz
   exact ⟨[],.slice (some a) 0 m,rfl,some a,m,rfl,by simp,(fun h=>by cases h),by simp,fun i x hx=>by simp at hx⟩
  have hspot:∃ b off,a=⟨b,off,none⟩:=by
   obtain ⟨x,b,off,q,e1,_⟩:=hone 0 Gf
   obtain ⟨ab,ao,asp⟩:=a
   simp [Addr.add] at e1
   exact ⟨ab,ao,by rw [e1.2.2]⟩
  obtain ⟨b,off,rfl⟩:=hspot
  obtain ⟨x0,_⟩:=hone 0 Gf
  haveI:Inhabited α := ⟨x0⟩
  obtain ⟨V,hV⟩:=choose_lt (α := α) hone
  have hlen:((List.range len).map V).length=len:=by simp
  refine ⟨(List.range len).map V,.slice (some ⟨b,off,none⟩) len m,rfl,some ⟨b,off,none⟩,m,by rw [hlen],by rw [hlen];exact hl,(fun h=>by cases h),?_,fun i x hx=>?_⟩
  ·rw [hlen]
   exact A1 (An _ (by omega:len≤len+(m-len))) hw1
  ·have hi:i<len:=by
    have:=(X6.1 hx).1
    omega
   have hxe:V i=x:=by simpa [hi] using hx
   obtain ⟨b',off',q,e1,hq,hlq,hr⟩:=hV i hi
   rw [Addr.add_lit] at e1
   cases e1
   exact ⟨_,_,q,rfl,hq,hlq,hxe ▸ hr⟩⟩
theorem qjs {H:Type} {enc:TypeId × Value→H} {w:World} {fuel:Nat} {cs:List Value} {d:DataW H} {p:List MemPlace} {fs:Array Field} (ht:P.underlying t=some (.struct fs))
 (h:DataW.trod enc P w 0 (fun _=>true) true fuel t cs=some (d,p)) (hw:∀ n∈d.weights P t,n≤reachBytes) (i:Nat) (f:Field) (hf:fs[i]? = some f) {e:TypeId} {o k:Nat} (h1:f.type=e) (h2:f.offset=o) (hk:Rep.k α = k) (he:Opn P e α) :
 ∃ x : α,rep (wholeM w) (sl cs o k) x:=by
 subst hk;subst h1;subst h2;obtain ⟨ys,n,_,hx,_,hyl,hfld⟩:=DataW.trod_struct ht h;obtain ⟨rfl,rfl⟩:=Prod.mk.inj hx;have hi:i<fs.size:=(Bo.1 hf).1;have e0:=hfld i f hf;rw [X7 Gf,he.1] at e0;refine he.2 H enc w n _ _ _ e0 fun nn hnn=>hw nn ?_;simp only [DataW.weights,ht];refine qwc (j:=i) ?_ ?_ nn hnn
 ·simp only [A5];rw [B1,hf];rfl
 ·simp only [A5,X7 (show i<ys.length by omega),Ak];rfl
theorem zd3 (ho:Opn P t α) {H:Type} {enc:TypeId × Value→H} {w:World} {v:Value} {d:DataW H} {p:List MemPlace} (h:DataW.Trod enc P w 0 (fun _=>true) true t v d p) (hw:(d.weights P t).all (· ≤ reachBytes)=true) :
 ∃ x : α,rep (wholeM w) v.cells.toList x:=by
 obtain ⟨fuel,hf⟩:=h;exact ho.2 H enc w fuel _ _ _ hf fun n hn=>of_decide_eq_true (Bn.1 hw n hn)
theorem opn_row {e:TypeId} (ht:P.underlying t=some (.slice e)) (ho:Opn P t (List α)) {H:Type} {enc:TypeId × Value→H} {w:World} {v:Value} {d:DataW H} {p:List MemPlace} (hv:Value.okWide P w .any 0 t v)
 (h:DataW.Trod enc P w 0 (fun _=>true) true t v d p) (hw:(d.weights P t).all (· ≤ reachBytes)=true):∃ l:List α,repL (wholeM w) v l:=by
 obtain ⟨a,len,cap,rfl⟩:=okWide_slice ht hv;obtain ⟨x,v',hx,hr⟩:=zd3 ho h hw;have:v'= .slice a len cap:=by simpa [Value.cells] using hx.symm
 subst this;exact ⟨x,hr⟩
end
def g0:GGraph:={ known:=((Zr.zd:Vector Bool 32).setIfInBounds 1 true).setIfInBounds 2 true,deps:=((Zr.zd:Vector (List Int) 32).setIfInBounds 1 [2]).setIfInBounds 2 [1] }
def qwd (sh:Int) (s:GNode) (m:Nat):GNode:=bif (eat s.entries m).state==2 then zdz s m sh else s
def zak (sh:Int) (s:GNode) (l:List Nat):GNode:=l.foldl (qwd sh) s
noncomputable def q60 (g:GGraph) (n:Nat):List Nat:=if qj5 g (n:Int)=true then q5k (qat g) n else []
noncomputable def qp8 (g:GGraph) (sh:Int) (s:GNode) (n:Nat):GNode:=bif (eat s.entries n).state==2 then zak sh s (q60 g n) else s
noncomputable def qwe (s:GNode) (sh:Int):GNode:=(List.range 32).foldl (qp8 (qpe s) sh) s
theorem qtu (g:GGraph) (n:Nat):qyc g (n:Int)=qa8 (q60 g n):=by
 unfold qyc q60 qa8;by_cases h:qj5 g (n:Int)=true
 ·rw [if_pos h,if_pos h,Di]
 ·rw [if_neg h,if_neg h];rfl
theorem qwf {g:GGraph} {n:Nat} (hn:n<32):∀ m∈q60 g n,m<32:=by
 unfold q60;by_cases h:qj5 g (n:Int)=true
 ·rw [if_pos h];exact (q1y (qhz g) hn).lt
 ·rw [if_neg h];simp
theorem qul {g:GGraph} {n:Nat} (hn:n<32):(q60 g n).length≤32:=by
 unfold q60;by_cases h:qj5 g (n:Int)=true
 ·rw [if_pos h];exact (q1y (qhz g) hn).len
 ·rw [if_neg h];simp
theorem GoodN.step {s:GNode} (h:GoodN s) {m:Nat} (hm:m<32) (sh:Int):GoodN (qwd sh s m):=by
 unfold qwd;cases h2:((eat s.entries m).state==2)
 ·exact h
 ·exact h.one hm (by simpa using h2) sh
theorem GoodN.run (sh:Int):∀ (l:List Nat) {s:GNode},GoodN s→(∀ m∈l,m<32)→GoodN (zak sh s l)
 | [],_,h,_=>h
 | m::t,_,h,hl=>GoodN.run sh t (h.step (hl m List.mem_cons_self) sh) fun x hx=>hl x (List.mem_cons_of_mem _ hx)
theorem GoodN.turn {s:GNode} (h:GoodN s) {n:Nat} (hn:n<32) (g:GGraph) (sh:Int):GoodN (qp8 g sh s n):=by
 unfold qp8;cases ((eat s.entries n).state==2)
 ·exact h
 ·exact h.run sh _ (qwf hn)
theorem GoodN.turns (g:GGraph) (sh:Int):∀ (l:List Nat) {s:GNode},GoodN s→(∀ m∈l,m<32)→GoodN (l.foldl (qp8 g sh) s)
 | [],_,h,_=>h
 | m::t,_,h,hl=>GoodN.turns g sh t (h.turn (hl m List.mem_cons_self) g sh) fun x hx=>hl x (List.mem_cons_of_mem _ hx)
theorem GoodN.exec {s:GNode} (h:GoodN s) (sh:Int):GoodN (qwe s sh):=h.turns _ sh _ fun m hm=>A9.1 hm
theorem q2g (l:List Nat) (k:Nat):(qa8 l)[k]? = (l[k]?).map fun m=>((m:Nat):Int):=by simp [qa8]
theorem q5o {s:GNode} (h:GoodN s) {m:Nat} (hm:m<32) (h2:((eat s.entries m).state==2)=true):KeyOk (eat s.entries m).ops∧(eat s.entries m).ops.length≤4:=by
 have h2:(eat s.entries m).state=2:=by simpa using h2
 have hb:=h.body hm Gf;exact ⟨KeyOk.of hb.ops,(qdh hb.ops).2⟩
theorem qpk {fu:Nat} (hfu:5≤fu) {sh y:Int} {rec:GNode→Int→Option GNode} {l:List Nat} (hl:∀ m∈l,m<32) (hlen:l.length≤32):∀ (q m k:Nat) (s:GNode),l.length=k+m→m<q→GoodN s→qcg fu sh y rec (qa8 l) q s k=qdg y rec (zak sh s (l.drop k))
 | 0,m,k,s,_,h,_=>absurd h Gf
 | q+1,0,k,s,hk,_,_=>by
  rw [qcg,qh0,qad (qab Gf),List.drop_of_length_le Gf];rfl
 | q+1,m+1,k,s,hk,hq,hs=>by
  have hlt:k<l.length:=by omega
  have hm:=hl _ (A2 hlt);have ih:=fun s hs=>qpk (y:=y) (rec:=rec) (sh:=sh) hfu hl hlen q m (k+1) s Gf Gf hs;rw [qcg,qh0,qae (qac Gf),qap,q2g,X7 hlt,Ad hlt];generalize l[k]=x at hm;simp only [Ak,qaa,qjh,wrs k Gf];rw [qaj Gf Gf,qaa,qsx hm,qaa];show _=qdg y rec (zak sh (qwd sh s x) (l.drop (k+1)));have hst:=hs.step hm sh;unfold qwd at hst ⊢;cases h2:((eat s.entries x).state==2)
  ·rw [cond_false,cond_false,ih s hs]
  ·rw [h2,cond_true] at hst;obtain ⟨b1,b2⟩:=q5o hs hm h2;rw [cond_true,cond_true,q4g hm b1 b2 (by have:=hs.len;omega) hfu,qaa,ih _ hst]
theorem qpl {fu N:Nat} {g:GGraph} (hg:qly g N) (hfu:N+80≤fu) {sh:Int}:∀ (q m k:Nat) (s:GNode),k+m=32→m<q→GoodN s→qbp fu sh g q s k=some ((List.range' k m).foldl (qp8 g sh) s)
 | 0,m,k,s,_,h,_=>absurd h Gf
 | q+1,0,k,s,hk,_,_=>by rw [qbp,qad (qab Gf),qaa];rfl
 | q+1,m+1,k,s,hk,hq,hs=>by
  have hk32:k<32:=by omega
  have ih:=fun s hs=>qpl hg hfu (sh:=sh) q m (k+1) s Gf Gf hs;rw [qbp,qae (qac Gf),qaj Gf Gf,qaa,qsx hk32,qaa,List.range'_succ,E6];have hne:((eat s.entries k).state != 2) = !((eat s.entries k).state==2):=rfl;have ht:=hs.turn hk32 g sh;rw [hne];unfold qp8 at ht ⊢;cases h2:((eat s.entries k).state==2)
  ·rw [Ap,cond_true,cond_false,qdg,wrs k Gf,ih s hs];rfl
  ·rw [h2,cond_true] at ht;rw [Aj,cond_false,cond_true,q6v hg hfu,qaa,qtu];have h:=qpk (fu:=fu) (sh:=sh) (y:=(k:Int)) (rec:=qbp fu sh g q) Gf (qwf (g:=g) hk32) (qul (g:=g) hk32) fu (q60 g k).length 0 s Gf (by have:=qul (g:=g) hk32;omega) hs;have h:qcg fu sh k (qbp fu sh g q) (qa8 (q60 g k)) fu s 0=qdg k (qbp fu sh g q) (zak sh s (q60 g k)):=h;rw [h,qdg,wrs k Gf,ih _ ht];rfl
theorem GoodN.small {s:GNode} (h:GoodN s):qly (qpe s) 33:=by
 intro a;by_cases ha:a<32
 ·rw [qru ha];by_cases h0:(eat s.entries a).state=0
  ·rw [(h.empty ha h0).2.2.1];simp
  ·have:=qk6 (h.body ha h0).deps;omega
 ·unfold qa5;rw [dif_neg ha];exact ⟨by simp,by simp⟩
theorem qdl {fu:Nat} {l:List Int} (h:l.length≤17592186043904):qcb fu l=some l:=by
 have hb:Rep.bytes Int=8:=rfl;unfold qcb;rw [qas (by rw [hb];simp only [A8];omega)];rfl
theorem q2h {fu:Nat} {s:GNode} (hs:GoodN s) (hfu:120≤fu) (sh:Int):qm1 fu s sh=some (qwe s sh):=by
 unfold qm1;rw [qz6 Gf,qaa,qaa,qdl (by have:=hs.len;omega),qaa,qaa];have h:=qpl (fu:=fu) hs.small Gf (sh:=sh) fu 32 0 s Gf Gf hs;unfold qwe;rw [Dv];exact h
theorem qnt {fu:Nat} (hfu:5≤fu) {sh y:Int} {rec:GNode→Int→Option (GNode × List GFrame × Int)} {l:List Nat} (hl:∀ m∈l,m<32) (hlen:l.length≤32):∀ (q m k:Nat) (s:GNode),l.length=k+m→m<q→GoodN s→qbx fu sh y rec (qa8 l) q s k=qcr y rec (zak sh s (l.drop k))
 | 0,m,k,s,_,h,_=>absurd h Gf
 | q+1,0,k,s,hk,_,_=>by
  rw [qbx,qh0,qad (qab Gf),List.drop_of_length_le Gf];rfl
 | q+1,m+1,k,s,hk,hq,hs=>by
  have hlt:k<l.length:=by omega
  have hm:=hl _ (A2 hlt);have ih:=fun s hs=>qnt (y:=y) (rec:=rec) (sh:=sh) hfu hl hlen q m (k+1) s Gf Gf hs;rw [qbx,qh0,qae (qac Gf),qap,q2g,X7 hlt,Ad hlt];generalize l[k]=x at hm;simp only [Ak,qaa,qf9,wrs k Gf];rw [qaj Gf Gf,qaa,qsx hm,qaa];show _=qcr y rec (zak sh (qwd sh s x) (l.drop (k+1)));have hst:=hs.step hm sh;unfold qwd at hst ⊢;cases h2:((eat s.entries x).state==2)
  ·rw [cond_false,cond_false,ih s hs]
  ·rw [h2,cond_true] at hst;obtain ⟨b1,b2⟩:=q5o hs hm h2;rw [cond_true,cond_true,qxb hm b1 b2 (by have:=hs.len;omega) hfu,qaa,ih _ hst]
theorem qnu {fu N:Nat} {g:GGraph} (hg:qly g N) (hfu:N+80≤fu) {who sh:Int} {f:GFrame} {e:GEntry}:∀ (q m k:Nat) (s:GNode),k+m=32→m<q→GoodN s→qbc fu who f sh e g q s k=qef who f sh e ((List.range' k m).foldl (qp8 g sh) s)
 | 0,m,k,s,_,h,_=>absurd h Gf
 | q+1,0,k,s,hk,_,_=>by rw [qbc,qad (qab Gf)];rfl
 | q+1,m+1,k,s,hk,hq,hs=>by
  have hk32:k<32:=by omega
  have ih:=fun s hs=>qnu hg hfu (who:=who) (f:=f) (e:=e) (sh:=sh) q m (k+1) s Gf Gf hs;rw [qbc,qae (qac Gf),qaj Gf Gf,qaa,qsx hk32,qaa,List.range'_succ,E6];have hne:((eat s.entries k).state != 2) = !((eat s.entries k).state==2):=rfl;have ht:=hs.turn hk32 g sh;rw [hne];unfold qp8 at ht ⊢;cases h2:((eat s.entries k).state==2)
  ·rw [Ap,cond_true,cond_false,qcr,wrs k Gf,ih s hs];rfl
  ·rw [h2,cond_true] at ht;rw [Aj,cond_false,cond_true,q38 hg hfu,qaa,qtu];have h:=qnt (fu:=fu) (sh:=sh) (y:=(k:Int)) (rec:=qbc fu who f sh e g q) Gf (qwf (g:=g) hk32) (qul (g:=g) hk32) fu (q60 g k).length 0 s Gf (by have:=qul (g:=g) hk32;omega) hs;have h:qbx fu sh k (qbc fu who f sh e g q) (qa8 (q60 g k)) fu s 0=qcr k (qbc fu who f sh e g q) (zak sh s (q60 g k)):=h;rw [h,qcr,wrs k Gf,ih _ ht];rfl
def qnv (who id:Int):GFrame:={ kind:=4,node:=who,id:=id,ops:=[],deps:=[],at_:=[],vals:=[] }
def q61 (who id:Int) (x:GEntry):GFrame:={ kind:=5,node:=who,id:=id,ops:=[],deps:=[],at_:=x.at_,vals:=x.values }
def q0a (who id:Int) (l:List Int):GFrame:={ kind:=2,node:=who,id:=id,ops:=[],deps:=l,at_:=[],vals:=[] }
def qha (sh who id:Int) (s:GNode):List GFrame:=bif (eat s.entries id.toNat).state==3&&qag (eat s.entries id.toNat).ops sh then [qnv who id,q61 who id (eat s.entries id.toNat)] else [qnv who id]
def qym (s:GNode) (f:GFrame) (sh:Int):GEntry:={ state:=1,ops:=f.ops,first:=qnq s f.id f.ops sh,deps:=[],at_:=[],values:=[] }
def q62 (s:GNode) (f:GFrame) (sh:Int):GNode:=bif (eat s.entries f.id.toNat).state==0 then { s with entries:=s.entries.setIfInBounds f.id.toNat (qym s f sh) } else s
def qpm (s:GNode) (f:GFrame) (sh:Int):List Int:=bif (eat s.entries f.id.toNat).state==0 then qnq s f.id f.ops sh else (eat s.entries f.id.toNat).first
def q63 (s:GNode) (f:GFrame) (sh:Int):GEntry:={ state:=2,ops:=f.ops,first:=qpm s f sh,deps:=f.deps,at_:=(eat s.entries f.id.toNat).at_,values:=(eat s.entries f.id.toNat).values }
def qp9 (s:GNode) (f:GFrame) (sh:Int):GNode:={ s with entries:=s.entries.setIfInBounds f.id.toNat (q63 s f sh) }
noncomputable def qeg (s:GNode) (f:GFrame) (sh:Int):GNode:=bif decide ((eat s.entries f.id.toNat).state<2) then qwe (qp9 s f sh) sh else s
noncomputable def qsz (s:GNode) (who:Int) (f:GFrame):GNode × List GFrame × Int :=
 bif f.kind==1 then bif qag f.ops (ofZ who) then (q62 s f (ofZ who),[q0a who f.id (eat (q62 s f (ofZ who)).entries f.id.toNat).first],0) else (s,[],4)
 else bif f.kind==3 then (qeg s f (ofZ who),qha (ofZ who) who f.id (qeg s f (ofZ who)),0) else (s,[],3)
noncomputable def qcs (s:GNode) (who:Int) (f:GFrame):GNode × List GFrame × Int :=
 bif qz4 s&&(decide (0≤who∧who<6)&&f.node==who) then bif qaf f==0 then qsz s who f else (s,[],qaf f) else (s,[],2)
theorem q64 {l:List Nat} (h:l.Pairwise (· < ·)) (h32:∀ m∈l,m<32):qan (qa8 l)=true:=by
 unfold qan;rw [qfs];intro i hi;rw [qh0] at hi;have g:∀ j,j<l.length→(qa8 l).getD j 0=((l[j]?.getD 0:Nat):Int):=fun j hj=>by
  simp [qa8,hj]
 unfold qic;rw [g i hi,X7 hi,Am];have h1:=h32 _ (A2 hi);rw [qac Gf,qac Gf,Aq,Aq];by_cases h0:i=0
 ·simp [h0]
 ·rw [g (i-1) Gf,X7 (show i-1<l.length by omega),Am];have:=Bg.1 h (i-1) i Gf hi Gf;rw [qac Gf,Bool.or_true]
theorem aheadL_mem {s:GNode} {id:Int} {ops:List GOp} {sh:Int} {m:Nat}:m∈q19 s id ops sh↔m<32∧qsy s id ops sh m=true:=by
 unfold q19;simp
theorem q5p {s:GNode} {n:Nat} {ops:List GOp} {sh:Int}:qan (qnq s n ops sh)=true∧qcx (qnq s n ops sh) n=false:=by
 refine ⟨q64 ?_ fun m hm=>(aheadL_mem.1 hm).1,?_⟩
 ·exact List.Pairwise.filter _ List.pairwise_lt_range
 ·rw [qnq,qsu];apply qab;intro h;have:=(aheadL_mem.1 h).2;unfold qsy at this;simp at this
theorem qwg {f:GFrame} (h:qaf f=0):qgp f=true∧qei f=true∧qmc f=true:=by
 unfold qaf at h;split at h
 ·cases h
 ·split at h
  ·cases h
  ·split at h
   ·rename_i h3;simpa [X9] using h3
   ·cases h
theorem q9u {f:GFrame} (h:qaf f=0) (hk:f.kind=1∨f.kind=3):qak f.ops=true:=by
 have:=(qwg h).1;unfold qgp at this;rwa [if_pos hk] at this
theorem q9v {f:GFrame} (h:qaf f=0) (hk:f.kind=3):qan f.deps=true∧qcx f.deps f.id=false:=by
 have:=(qwg h).2.1;unfold qei at this;rw [if_pos (.inr hk)] at this;simpa [X9] using this
theorem GoodN.asked {s:GNode} (h:GoodN s) {f:GFrame} (hf:qaf f=0) (hk:f.kind=1) (sh:Int):GoodN (q62 s f sh):=by
 obtain ⟨_,_,hid⟩:=qds hf;obtain ⟨n,hn⟩:∃ n:Nat,f.id=n:=⟨f.id.toNat,by omega⟩;unfold q62;rw [hn,Di];cases h0:((eat s.entries n).state==0)
 ·exact h
 ·have h0:(eat s.entries n).state=0:=by simpa using h0
  refine h.set (n:=n) Gf rfl rfl Gf ⟨by show (1:Int)≤1;omega,by show (1:Int)≤2;omega⟩ ?_;have ha:qan (qnq s f.id f.ops sh)=true∧qcx (qnq s f.id f.ops sh) n=false:=by rw [hn];exact q5p
  exact ⟨q9u hf (.inl hk),ha.1,rfl,ha.2,rfl,fun _=>rfl,fun _=>rfl,rfl,rfl⟩
theorem GoodN.comm {s:GNode} (h:GoodN s) {f:GFrame} (hf:qaf f=0) (hk:f.kind=3) (h2:(eat s.entries f.id.toNat).state<2) (sh:Int):GoodN (qp9 s f sh):=by
 obtain ⟨_,_,hid⟩:=qds hf;obtain ⟨n,hn⟩:∃ n:Nat,f.id=n:=⟨f.id.toNat,by omega⟩;have hn32:n<32:=by omega
 have hto:f.id.toNat=n:=by rw [hn];rfl
 rw [hto] at h2;have hfi:qan (qpm s f sh)=true∧qcx (qpm s f sh) n=false:=by
  unfold qpm;rw [hto];cases h0:((eat s.entries n).state==0)
  ·have hb:=h.body hn32 (by simpa using h0);exact ⟨hb.first,hb.nfirst⟩
  ·rw [cond_true,hn];exact q5p
 have hat:(eat s.entries n).at_=[]∧(eat s.entries n).values=[]:=by
  by_cases h0:(eat s.entries n).state=0
  ·exact ⟨(h.empty hn32 h0).2.2.2.1,(h.empty hn32 h0).2.2.2.2⟩
  ·have hb:=h.body hn32 h0;have h1:=hb.undone Gf;have h2:=hb.same;rw [h1] at h2;exact ⟨h1,A0.1 h2.symm⟩
 have hd:=q9v hf hk;rw [hn] at hd;refine h.set (n:=n) hn32 (e:=q63 s f sh) (by rw [← hto];rfl) rfl Gf ⟨by show (1:Int)≤2;omega,by show (2:Int)≤2;omega⟩ ?_;have e1:(q63 s f sh).at_=[]:=by rw [← hat.1,← hto];rfl
 have e2:(q63 s f sh).values=[]:=by rw [← hat.2,← hto];rfl
 refine ⟨q9u hf (.inr hk),hfi.1,hd.1,hfi.2,hd.2,fun h=>?_,fun _=>e1,by rw [e1,e2],by rw [e1];rfl⟩;have h:(2:Int)=1:=h;omega
theorem GoodN.commit {s:GNode} (h:GoodN s) {f:GFrame} (hf:qaf f=0) (hk:f.kind=3) (sh:Int):GoodN (qeg s f sh):=by
 unfold qeg;by_cases h2:(eat s.entries f.id.toNat).state<2
 ·rw [qae (qac h2)];exact (h.comm hf hk h2 sh).exec sh
 ·rw [qad (qab h2)];exact h
theorem qwh {v:Vector GEntry 32} {j:Int} (h0:0≤j) (h1:j<32):qam v j=some (eat v j.toNat):=by
 obtain ⟨n,rfl⟩:∃ n:Nat,j=n:=⟨j.toNat,by omega⟩;rw [qsx Gf,Di]
theorem qyn {fu:Nat} {x:Int}:qsi fu x=some (decide (0≤x∧x<6)):=by
 unfold qsi qmz;by_cases h:x≥0
 ·rw [qae (qac h)];congr 1;apply decide_eq_decide.2;omega
 ·rw [qad (qab h),qab Gf]
theorem qpn {who sh:Int} {f:GFrame} {d:GNode} (hf:0≤f.id∧f.id<32):qgx who f sh d=some (d,qha sh who f.id d,0):=by
 unfold qgx qjj qji qha;have hb:Rep.bytes GFrame=120:=rfl;rw [qaa,qaj hf.1 hf.2,qaa,qwh hf.1 hf.2,qaa,qaa];cases ((eat d.entries f.id.toNat).state==3)
 ·rfl
 ·simp only [cond_true,qaa,Aq];cases qag (eat d.entries f.id.toNat).ops sh
  ·rfl
  ·rw [cond_true,qas (by rw [hb];simp)];rfl
theorem qnw {who sh:Int} {f:GFrame} {e:GEntry} {d:GNode} (hf:0≤f.id∧f.id<32):qef who f sh e d=some (d,qha sh who f.id d,0):=by
 unfold qef qhw qhv qha;have hb:Rep.bytes GFrame=120:=rfl;rw [qaa,qaj hf.1 hf.2,qaa,qwh hf.1 hf.2,qaa,qaa];cases ((eat d.entries f.id.toNat).state==3)
 ·rfl
 ·simp only [cond_true,qaa,Aq];cases qag (eat d.entries f.id.toNat).ops sh
  ·rfl
  ·rw [cond_true,qas (by rw [hb];simp)];rfl
theorem qpo {fu:Nat} {s d:GNode} {who sh:Int} {f:GFrame} (hf:0≤f.id∧f.id<32) (hfu:120≤fu) (hg:GoodN (qp9 s f sh))
 (hd:d.entries=s.entries.setIfInBounds f.id.toNat { eat s.entries f.id.toNat with first:=qpm s f sh }) (ho:d.order=s.order) (hv:d.values=s.values) :
 qgy fu who f sh d=some (qwe (qp9 s f sh) sh,qha sh who f.id (qwe (qp9 s f sh) sh),0):=by
 have hn:f.id.toNat<32:=by omega
 obtain ⟨n,hnn⟩:∃ n:Nat,f.id=n:=⟨f.id.toNat,by omega⟩;unfold qgy;have e1:∀ (x:Vector GEntry 32),({ d with entries:=x }:GNode).entries=x:=fun _=>rfl;rw [qwh hf.1 hf.2,qaa,qar hf.1 hf.2,qaa,qaa];rw [e1,qwh hf.1 hf.2,qaa,qd0 hn,if_pos rfl,qar hf.1 hf.2,qaa,qaa];simp only [Bd];rw [qwh hf.1 hf.2,qaa,qd0 hn,if_pos rfl,qar hf.1 hf.2,qaa,qaa];simp only [Bd];have hc:({ entries:=d.entries.setIfInBounds f.id.toNat { state:=2,ops:=f.ops,first:=(eat d.entries f.id.toNat).first,deps:=f.deps,at_:=(eat d.entries f.id.toNat).at_,values:=(eat d.entries f.id.toNat).values },order:=d.order,values:=d.values }:GNode)=qp9 s f sh:=by
  unfold qp9 q63;rw [hd,ho,hv,qd0 hn,if_pos rfl];simp only [Bd]
 rw [hc,q2h hg hfu,qaa,qaa,qpn hf]
theorem q2i {v:Vector GEntry 32} {k:Nat} (hk:k<32):v.setIfInBounds k (eat v k)=v:=by
 refine q9r fun j hj=>?_;rw [qd0 hk];by_cases e:k=j
 ·rw [if_pos e,e]
 ·rw [if_neg e]
theorem qxc {fu:Nat} {s:GNode} {who:Int} {f:GFrame} {d:GNode} (hg:GoodN s) (hz:qaf f=0) (hfu:120≤fu):qgz fu s who f d=some (qsz s who f):=by
 obtain ⟨_,_,hf⟩:=qds hz;have hn:f.id.toNat<32:=by omega
 unfold qgz qsz;rw [hz,qaa,qad (by rfl),qaa,qaj hf.1 hf.2,qaa];cases h1:(f.kind==1)
 ·rw [cond_false,cond_false];cases h3:(f.kind==3)
  ·rfl
  ·rw [cond_true,cond_true,qwh hf.1 hf.2,qaa,qaa];unfold qeg;have hk:f.kind=3:=by simpa using h3
   by_cases h2:(eat s.entries f.id.toNat).state<2
   ·have hc:=hg.comm hz hk h2 (ofZ who);rw [qae (qac h2),qae (qac h2)];cases h0:((eat s.entries f.id.toNat).state==0)
    ·rw [cond_false];refine qpo hf hfu hc ?_ rfl rfl;unfold qpm;rw [h0,cond_false];exact (q2i hn).symm
    ·rw [cond_true,qrt Gf,qaa,qaa,qar hf.1 hf.2,qaa,qaa];refine qpo hf hfu hc ?_ rfl rfl;unfold qpm;rw [h0,cond_true]
   ·rw [qad (qab h2),qad (qab h2),qpn hf]
 ·rw [cond_true,cond_true,qaa];cases qag f.ops (ofZ who)
  ·rfl
  ·rw [qad (c := !true) rfl,cond_true,qwh hf.1 hf.2,qaa];unfold q62;cases h0:((eat s.entries f.id.toNat).state==0)
   ·rw [cond_false,cond_false,qgw,qwh hf.1 hf.2];rfl
   ·rw [cond_true,qrt Gf,qaa,qaa,qaa,qar hf.1 hf.2,qaa,qaa,qgw,qwh hf.1 hf.2];rfl
theorem qtv {fu N:Nat} {s:GNode} {who:Int} {f:GFrame} (hs:NSz s N) (h1:N+40≤fu) (hfu:120≤fu):qk0 fu s who f=some (qcs s who f):=by
 unfold qk0 qcs;rw [q17 hs h1,qaa];cases hg:qz4 s
 ·rfl
 ·have hg:=goodN_iff.1 hg;rw [qad (c := !true) rfl,qyn,qaa,Aq];cases decide (0≤who∧who<6)
  ·rfl
  ·rw [qad (c := !true) rfl,Aq];unfold qg0;have hne:(f.node != who) = !(f.node==who):=rfl;rw [hne];cases (f.node==who)
   ·rfl
   ·rw [Aj,cond_false,cond_true];cases hz:(qaf f==0)
    ·unfold qgz;have:(qaf f != 0)=true:=by rw [bne,hz];rfl
     rw [qaa,this];rfl
    ·exact qxc hg (by simpa using hz) hfu
theorem qnx {fu:Nat} {s:GNode} {who sh:Int} {f:GFrame} {e:GEntry} (hf:0≤f.id∧f.id<32) (hfu:120≤fu) (hg:GoodN (qp9 s f sh)) (he:e={ eat s.entries f.id.toNat with first:=qpm s f sh }) :
 qfn fu who f sh s e=some (qwe (qp9 s f sh) sh,qha sh who f.id (qwe (qp9 s f sh) sh),0):=by
 unfold qfn;rw [qaa,qaa,qaa,qaj hf.1 hf.2,qaa,qwh hf.1 hf.2,qaa,qar hf.1 hf.2,qaa,qaa];have hc:({ s with entries:=s.entries.setIfInBounds f.id.toNat { state:=2,ops:=f.ops,first:=e.first,deps:=f.deps,at_:=e.at_,values:=e.values } }:GNode)=qp9 s f sh:=by
  rw [he];rfl
 rw [hc,q4d Gf,qaa,qaa];have h:=qnu (fu:=fu) hg.small Gf (who:=who) (f:=f) (sh:=sh) (e:={ state:=2,ops:=f.ops,first:=e.first,deps:=f.deps,at_:=e.at_,values:=e.values }) fu 32 0 _ Gf Gf hg
 have e2:(List.range' 0 32).foldl (qp8 (qpe (qp9 s f sh)) sh) (qp9 s f sh)=qwe (qp9 s f sh) sh:=by unfold qwe;rw [Dv]
 rw [e2,qnw hf] at h;exact h
theorem qny {fu N:Nat} {s:GNode} {who:Int} {f:GFrame} {d:GNode} (hg:GoodN s) (hs:NSz s N) (hz:qaf f=0) (hfu:120≤fu) (h13:f.kind=1∨f.kind=3):qhx fu s who f d=some (qsz s who f):=by
 obtain ⟨_,_,hf⟩:=qds hz;have hn:f.id.toNat<32:=by omega
 have h0s:∀ k,k<32→0≤(eat s.entries k).state:=fun k hk=>(hg.state hk).1;unfold qhx qsz;rw [qaa,qaa,q18 hs Gf,qaa,qaa,qaj hf.1 hf.2,qaa,qwh hf.1 hf.2,qaa,qaa];cases h1:(f.kind==1)
 ·have hk:f.kind=3:=by
   rcases h13 with h | h
   ·rw [h] at h1;cases h1
   ·exact h
  have h3:(f.kind==3)=true:=by simpa using hk
  rw [cond_false,cond_false,h3,cond_true];unfold qeg;by_cases h2:(eat s.entries f.id.toNat).state<2
  ·have hc:=hg.comm hz hk h2 (ofZ who);rw [qae (qac h2),qae (qac h2)];cases h0:((eat s.entries f.id.toNat).state==0)
   ·rw [cond_false];refine qnx hf hfu hc ?_;unfold qpm;rw [h0,cond_false]
   ·rw [cond_true,qyk h0s Gf,qaa,qaa];refine qnx hf hfu hc ?_;unfold qpm;rw [h0,cond_true]
  ·rw [qad (qab h2),qad (qab h2),qnw hf]
 ·rw [cond_true,cond_true,qaa];cases qag f.ops (ofZ who)
  ·rfl
  ·rw [qad (c := !true) rfl,cond_true];unfold q62;cases h0:((eat s.entries f.id.toNat).state==0)
   ·rfl
   ·rw [cond_true,qyk h0s Gf,qaa,qaa,qaa,qaa,qar hf.1 hf.2,qaa,qaa];unfold qhu;have e:eat (s.entries.setIfInBounds f.id.toNat (qym s f (ofZ who))) f.id.toNat=qym s f (ofZ who):=by rw [qd0 hn,if_pos rfl]
    rw [cond_true];show some (_,[q0a who f.id (qym s f (ofZ who)).first],(0:Int))=some (_,[q0a who f.id (eat (s.entries.setIfInBounds f.id.toNat (qym s f (ofZ who))) f.id.toNat).first],0)
    rw [e];rfl
theorem qrx {fu N:Nat} {s:GNode} {who:Int} {f:GFrame} (hs:NSz s N) (h1:N+40≤fu) (hfu:120≤fu):qiy fu s who f=some (qcs s who f):=by
 unfold qiy qcs;rw [q6x hs h1,qaa];cases hg:qz4 s
 ·rfl
 ·have hg:=goodN_iff.1 hg;rw [qad (c := !true) rfl,Aq];by_cases hw0:who<0
  ·rw [qae (qac hw0),qab (show ¬ (0≤who∧who<6) by omega)];rfl
  ·rw [qad (qab hw0)];by_cases hw5:who>5
   ·rw [qae (qac hw5),qab (show ¬ (0≤who∧who<6) by omega)];rfl
   ·rw [qad (qab hw5),qac (show 0≤who∧who<6 by omega),Aq];unfold qdk;have hne:(f.node != who) = !(f.node==who):=rfl;rw [hne];cases (f.node==who)
    ·rfl
    ·rw [Aj,cond_false,cond_true];unfold qj4;cases hz:(qaf f==0)
     ·have:(qaf f != 0)=true:=by rw [bne,hz];rfl
      rw [qaa,this];rfl
     ·have:(qaf f != 0)=false:=by rw [bne,hz];rfl
      rw [qaa,this,cond_false,cond_true];have hz:qaf f=0:=by simpa using hz
      have h1e:(f.kind != 1) = !(f.kind==1):=rfl;have h3e:(f.kind != 3) = !(f.kind==3):=rfl;rw [h1e,h3e];unfold qga;cases h1:(f.kind==1)
      ·cases h3:(f.kind==3)
       ·unfold qsz;rw [h1,h3];rfl
       ·exact qny (d:=Zr.zd) hg hs hz hfu (.inr (by simpa using h3))
      ·exact qny (d:=Zr.zd) hg hs hz hfu (.inl (by simpa using h1))
theorem q5q {m:Int}:∀ {l:List Int} {b:Int},qz3 m b l=true→l=[]∨b+l.length<m
 | [],_,_ => .inl rfl
 | x::t,b,h=>by
  unfold qz3 at h;simp only [Bool.and_eq_true,decide_eq_true_eq] at h;refine .inr ?_;rcases q5q h.2 with e | e
  ·subst e;simp;omega
  ·simp only [List.length_cons];omega
theorem GoodN.sizes {s:GNode} (h:GoodN s):NSz s 33:=by
 refine ⟨by have:=h.len;omega,fun k=>?_⟩;by_cases hk:k<32
 ·by_cases h0:(eat s.entries k).state=0
  ·obtain ⟨e1,e2,e3,e4,e5⟩:=h.empty hk h0;refine ⟨?_,?_,?_,?_,?_⟩
   ·rw [e1];simp
   ·rw [e2];simp
   ·rw [e3];simp
   ·rw [e4];simp
   ·rw [e5];simp
  ·have hb:=h.body hk h0;have h1:=qdh hb.ops;have h2:=qk6 hb.first
   have h3:=qk6 hb.deps;have h4:(eat s.entries k).at_.length≤4:=by
    rcases q5q hb.up with e | e
    ·rw [e];simp
    ·omega
   have h5:=hb.same;exact ⟨by omega,by omega,by omega,by omega,by omega⟩
 ·rw [zdv hk];have e:(Zr.zd:GEntry)={ state:=0,ops:=[],first:=[],deps:=[],at_:=[],values:=[] }:=rfl
  rw [e];exact ⟨by simp,by simp,by simp,by simp,by simp⟩
theorem NSz.mono {s:GNode} {N M:Nat} (h:NSz s N) (hNM:N≤M):NSz s M :=
 ⟨⟨by have:=h.order.1;omega,h.order.2⟩,fun k=>by
  have e:=h.ent k
  exact ⟨⟨by have:=e.ops.1;omega,e.ops.2⟩,⟨by have:=e.first.1;omega,e.first.2⟩,⟨by have:=e.deps.1;omega,e.deps.2⟩,⟨by have:=e.at_.1;omega,e.at_.2⟩,⟨by have:=e.values.1;omega,e.values.2⟩⟩⟩
theorem qwi {fu N:Nat} {e:GEntry} (h:ESz e N) (hf:N≤fu):qfm fu e e=some true:=by
 unfold qfm qb9;rw [qrr (by have:=h.ops.2;omega) (by have:=h.ops.1;omega)];simp only [qaa,qn8,beq_self_eq_true,cond_true]
theorem qpp {fu N:Nat} {s:GNode} (h:NSz s N) (hf:N≤fu):∀ (n m k:Nat),k+m=32→m<n→qdi fu s s n k=some true
 | 0,m,k,_,h=>absurd h Gf
 | n+1,0,k,hk,_=>by
  rw [qdi,qad (qab Gf),qaa,qn8,cond_true,qjo,qac rfl]
 | n+1,m+1,k,hk,hn=>by
  have hk32:k<32:=by omega
  rw [qdi,qae (qac Gf),qaj Gf Gf,qaa,qsx hk32,qaa,qaa,qaa,qwi (h.ent k) hf,qaa,qad (c := !true) rfl,wrs k Gf];exact qpp h hf n m (k+1) Gf Gf
theorem qxd {fu N:Nat} {s:GNode} (h:NSz s N) (hf:N+40≤fu):qra fu s s=some true:=qpp h Gf fu 32 0 Gf Gf
def zeroN:GNode:={ entries:=Zr.zd,order:=Zr.zd,values:=Zr.zd }
theorem q5r (k:Nat):eat (Zr.zd:Vector GEntry 32) k=Zr.zd:=by
 show eat (Vector.replicate 32 Zr.zd) k=Zr.zd;unfold eat;by_cases hk:k<32<;>simp [hk]
theorem qh3:GoodN zeroN:=by
 refine ⟨List.nodup_nil,(by intro m hm;cases hm),fun k hk=>?_⟩;show qg7 k (eat (Zr.zd:Vector GEntry 32) k) (decide ((k:Int)∈([]:List Int)))=true;rw [q5r];rfl
def f9:GFrame:={ kind:=3,node:=3,id:=4,ops:=[{ kind:=2,key:=1,n:=9 }],deps:=[],at_:=[],vals:=[] }
theorem ESz.mono {e:GEntry} {N M:Nat} (h:ESz e N) (hNM:N≤M):ESz e M :=
 ⟨⟨by have:=h.ops.1;omega,h.ops.2⟩,⟨by have:=h.first.1;omega,h.first.2⟩,⟨by have:=h.deps.1;omega,h.deps.2⟩,⟨by have:=h.at_.1;omega,h.at_.2⟩,⟨by have:=h.values.1;omega,h.values.2⟩⟩
def zg6 (l:List Int):Prop:=∀ c∈l,0≤c∧c<256
theorem q2j {n:Int} (h1 : -1099511627776≤n) (h2:n≤1099511627776):q7m ((n+140737488355328) / 1099511627776%256) ((n+140737488355328) / 4294967296%256) ((n+140737488355328) / 16777216%256) ((n+140737488355328) / 65536%256) ((n+140737488355328) / 256%256) ((n+140737488355328)%256)=n:=by
 unfold q7m;omega
theorem q5s {r:List Int}:∀ (os:List GOp),(∀ o∈os,-1099511627776≤o.n∧o.n≤1099511627776)→q5h os.length (os.flatMap qib++r)=some (os,r)
 | [],_=>rfl
 | o::t,h=>by
  have h0:=h o Aa;have ih:=q5s (r:=r) t fun x hx=>h x (X8 _ hx);have e:(o::t).flatMap qib++r=o.kind::o.key::(o.n+140737488355328) / 1099511627776%256::(o.n+140737488355328) / 4294967296%256::(o.n+140737488355328) / 16777216%256::(o.n+140737488355328) / 65536%256::(o.n+140737488355328) / 256%256::(o.n+140737488355328)%256::(t.flatMap qib++r):=rfl;rw [e,Ah,q5h,ih,q2j h0.1 h0.2];rfl
theorem q5t {r:List Int}:∀ (ats vs:List Int),vs.length=ats.length→(∀ v∈vs,-1099511627776≤v∧v≤1099511627776)→qsm ats.length ((ats.zip vs).flatMap qcq++r)=some (ats,vs,r)
 | [],[],_,_=>rfl
 | [],_::_,h,_=>by simp at h
 | _::_,[],h,_=>by simp at h
 | a::ats,v::vs,hl,h=>by
  have h0:=h v Aa;have ih:=q5t (r:=r) ats vs (by simpa using hl) fun x hx=>h x (X8 _ hx);have e:((a::ats).zip (v::vs)).flatMap qcq++r=a::(v+140737488355328) / 1099511627776%256::(v+140737488355328) / 4294967296%256::(v+140737488355328) / 16777216%256::(v+140737488355328) / 65536%256::(v+140737488355328) / 256%256::(v+140737488355328)%256::((ats.zip vs).flatMap qcq++r):=rfl;rw [e,Ah,qsm,ih,q2j h0.1 h0.2];rfl
theorem q9w {f:GFrame} (hf:FOk f) (r:List Int):qvp (q32 f++r)=some (f,r):=by
 have e:q32 f++r=f.kind::f.node::f.id::(f.ops.length:Int)::(f.ops.flatMap qib++((f.deps.length:Int)::(f.deps++((f.at_.length:Int)::((f.at_.zip f.vals).flatMap qcq++r))))):=by
  unfold q32;simp [As]
 have h1:=q5s (r:=(f.deps.length:Int)::(f.deps++((f.at_.length:Int)::((f.at_.zip f.vals).flatMap qcq++r)))) f.ops fun o ho=>by have:=hf.op o ho;omega
 have h2:=q5t (r:=r) f.at_ f.vals hf.vals hf.val;have t1:((f.ops.length:Int)).toNat=f.ops.length:=rfl;have t2:((f.deps.length:Int)).toNat=f.deps.length:=rfl;have t3:((f.at_.length:Int)).toNat=f.at_.length:=rfl;rw [e,qvp,t1,h1];simp only [Dz];rw [q34,t2,q33,if_pos (by simp)];simp only [Dz];rw [List.take_left' rfl,List.drop_left' rfl,q1r,t3,h2];rfl
theorem zd4 {l:List Int} (h:zg6 l):byL (strOfNums l)=l:=by
 unfold byL;rw [strOfNums_data,List.map_map];have:∀ x∈l,((fun b:UInt8=>(b.toNat:Int)) ∘ fun n:Int=>UInt8.ofNat n.toNat) x=x:=by
  intro x hx;have:=h x hx;show (((UInt8.ofNat x.toNat).toNat:Nat):Int)=x;rw [UInt8.toNat_ofNat_of_lt' (by show x.toNat<256;omega)];omega
 rw [List.map_congr_left this];simp
theorem q9x {f:GFrame} (hf:FOk f):zg6 (q32 f)∧(q32 f).length≤100:=by
 have six:∀ (n c:Int),c∈q5a n→0≤c∧c<256:=by
  intro n c hc;unfold q5a at hc;simp only [Ab,B4,or_false] at hc;omega
 have hlen6:∀ n,(q5a n).length=6:=fun n=>rfl;have h1:∀ (os:List GOp),(os.flatMap qib).length=8*os.length:=by
  intro os
  induction os with
  | nil=>rfl
  | cons o t ih =>
   have e0:qib o=[o.kind,o.key]++q5a o.n:=rfl;rw [Bh,Ac,ih,e0];simp [hlen6];omega
 have h2:∀ (zs:List (Int × Int)),(zs.flatMap qcq).length=7*zs.length:=by
  intro zs
  induction zs with
  | nil=>rfl
  | cons z t ih =>
   have e0:qcq z=z.1::q5a z.2:=rfl;rw [Bh,Ac,ih,e0];simp [hlen6];omega
 have hh:=hf.head;have ho:=hf.ops;have hd:=hf.deps;have ha:=hf.at_;refine ⟨fun c hc=>?_,?_⟩
 ·unfold q32 at hc;simp only [Al,Ab,B4,or_false,List.mem_flatMap] at hc;rcases hc with (h | h | h | h) | ⟨o,h,hx⟩ | h | h | h | ⟨z,h,hx⟩
  ·omega
  ·omega
  ·omega
  ·omega
  ·have:=hf.op o h;have e0:qib o=[o.kind,o.key]++q5a o.n:=rfl;rw [e0] at hx;simp only [Al,Ab,B4,or_false] at hx;rcases hx with (h | h) | h
   ·omega
   ·omega
   ·exact six _ _ h
  ·omega
  ·have:=hf.dep c h;omega
  ·omega
  ·have e0:qcq z=z.1::q5a z.2:=rfl;rw [e0] at hx;rcases Ab.1 hx with h3 | h3
   ·have:=hf.ats z.1 (List.of_mem_zip h).1;omega
   ·exact six _ _ h3
 ·unfold q32;simp only [Ac,Ah,A8,h1,h2,List.length_zip];omega
theorem q65 (l:List Int):(∃ f,qvp l=some (f,[])∧qaf f=0∧qo0 l=(f,0))∨qo0 l=(noF,1):=by
 unfold qo0
 match h:qvp l with
 | none=>exact .inr rfl
 | some (f,[]) =>
  by_cases hz:qaf f=0
  ·left;refine ⟨f,rfl,hz,?_⟩;show (bif qaf f==0 then (f,0) else (noF,(1:Int)))=_;rw [hz];rfl
  ·right;have e2:(qaf f==0)=false:=by simp [hz]
   show (bif qaf f==0 then (f,0) else (noF,(1:Int)))=_;rw [e2];rfl
 | some (f,_::_)=>exact .inr rfl
theorem q5u {s:GNode} {who:Int} {f:GFrame} (h:(qcs s who f).2.2≠0):(qcs s who f).1=s∧(qcs s who f).2.1=[]:=by
 unfold qcs at *;cases hc:(qz4 s&&(decide (0≤who∧who<6)&&f.node==who))
 ·exact ⟨rfl,rfl⟩
 ·rw [hc,cond_true] at h;rw [cond_true];cases hz:(qaf f==0)
  ·exact ⟨rfl,rfl⟩
  ·rw [hz,cond_true] at h;rw [cond_true];unfold qsz at *;cases h1:(f.kind==1)
   ·rw [h1,cond_false] at h;cases h3:(f.kind==3)
    ·exact ⟨rfl,rfl⟩
    ·rw [h3,cond_true] at h;exact absurd rfl h
   ·rw [h1,cond_true] at h;cases ht:qag f.ops (ofZ who)
    ·exact ⟨rfl,rfl⟩
    ·rw [ht,cond_true] at h;exact absurd rfl h
theorem qum {s:GNode} {who:Int} {f:GFrame} (hs:GoodN s) (hw:0≤who∧who<6) (hn:f.node=who) (hz:qaf f=0):qcs s who f=qsz s who f:=by
 unfold qcs;rw [goodN_iff.2 hs,hz,qac hw,hn];simp
theorem qry {s:GNode} {who:Int} {f:GFrame} (h1:f.kind=1) (ht:qag f.ops (ofZ who)=true):qsz s who f=(q62 s f (ofZ who),[q0a who f.id (eat (q62 s f (ofZ who)).entries f.id.toNat).first],0):=by
 unfold qsz;rw [qae (by simp [h1]),ht];rfl
theorem qj7 {s:GNode} {who:Int} {f:GFrame} (h3:f.kind=3):qsz s who f=(qeg s f (ofZ who),qha (ofZ who) who f.id (qeg s f (ofZ who)),0):=by
 unfold qsz;rw [qad (by simp [h3]),qae (by simp [h3])]
theorem qun {s:GNode} {who:Int} {f:GFrame} (h:(qcs s who f).2.2=0):GoodN s∧(0≤who∧who<6)∧f.node=who∧qaf f=0∧((f.kind=1∧qag f.ops (ofZ who)=true)∨f.kind=3):=by
 unfold qcs at h;cases hc:(qz4 s&&(decide (0≤who∧who<6)&&f.node==who))
 ·rw [hc] at h;exact absurd (show (2:Int)=0 from h) Gg
 ·rw [hc,cond_true] at h;simp only [X9,decide_eq_true_eq,beq_iff_eq] at hc;cases hz:(qaf f==0)
  ·rw [hz] at h;have h:qaf f=0:=h;rw [h] at hz;cases hz
  ·rw [hz,cond_true] at h;refine ⟨goodN_iff.1 hc.1,hc.2.1,hc.2.2,by simpa using hz,?_⟩;unfold qsz at h;cases h1:(f.kind==1)
   ·rw [h1,cond_false] at h;cases h3:(f.kind==3)
    ·rw [h3] at h;exact absurd (show (3:Int)=0 from h) Gg
    ·exact .inr (by simpa using h3)
   ·rw [h1,cond_true] at h;cases ht:qag f.ops (ofZ who)
    ·rw [ht] at h;exact absurd (show (4:Int)=0 from h) Gg
    ·exact .inl ⟨by simpa using h1,rfl⟩
structure Ex (s t:GNode):Prop where
 ent:∀ k,k<32→eat t.entries k=eat s.entries k∨((eat s.entries k).state=2∧∃ a b,eat t.entries k=qh2 (eat s.entries k) a b)
 order:∃ L,t.order=s.order++L
theorem Ex.refl (s:GNode):Ex s s:=⟨fun _ _ => .inl rfl,[],by simp⟩
theorem Ex.trans {s t u:GNode} (h:Ex s t) (k:Ex t u):Ex s u:=by
 refine ⟨fun j hj=>?_,?_⟩
 ·rcases h.ent j hj with e | ⟨e2,a,b,e⟩
  ·rcases k.ent j hj with e' | ⟨e2',a,b,e'⟩
   ·exact .inl (e'.trans e)
   ·rw [e] at e2' e';exact .inr ⟨e2',a,b,e'⟩
  ·rcases k.ent j hj with e' | ⟨e2',_⟩
   ·exact .inr ⟨e2,a,b,e'.trans e⟩
   ·rw [e] at e2';exact absurd (show (3:Int)=2 from e2') Gg
 ·obtain ⟨L,h1⟩:=h.order;obtain ⟨L',h2⟩:=k.order;exact ⟨L++L',by rw [h2,h1,As]⟩
theorem Ex.one {s:GNode} {n:Nat} (hn:n<32) (h2:(eat s.entries n).state=2) (sh:Int):Ex s (zdz s n sh):=by
 refine ⟨fun k hk=>?_,_,rfl⟩;show eat (s.entries.setIfInBounds n _) k=_∨_∧∃ a b,eat (s.entries.setIfInBounds n _) k=_;rw [qd0 hn];by_cases e:n=k
 ·subst e;rw [if_pos rfl];exact .inr ⟨h2,_,_,rfl⟩
 ·rw [if_neg e];exact .inl rfl
theorem Ex.step {s:GNode} {m:Nat} (hm:m<32) (sh:Int):Ex s (qwd sh s m):=by
 unfold qwd;cases h2:((eat s.entries m).state==2)
 ·exact .refl s
 ·exact .one hm (by simpa using h2) sh
theorem Ex.run (sh:Int):∀ (l:List Nat) (s:GNode),(∀ m∈l,m<32)→Ex s (zak sh s l)
 | [],s,_ => .refl s
 | m::t,_,hl=>(Ex.step (hl m List.mem_cons_self) sh).trans (Ex.run sh t _ fun x hx=>hl x (List.mem_cons_of_mem _ hx))
theorem Ex.turn {s:GNode} {n:Nat} (hn:n<32) (g:GGraph) (sh:Int):Ex s (qp8 g sh s n):=by
 unfold qp8;cases ((eat s.entries n).state==2)
 ·exact .refl s
 ·exact Ex.run sh _ s (qwf hn)
theorem Ex.turns (g:GGraph) (sh:Int):∀ (l:List Nat) (s:GNode),(∀ m∈l,m<32)→Ex s (l.foldl (qp8 g sh) s)
 | [],s,_ => .refl s
 | m::t,_,hl=>(Ex.turn (hl m List.mem_cons_self) g sh).trans (Ex.turns g sh t _ fun x hx=>hl x (List.mem_cons_of_mem _ hx))
theorem Ex.exec (s:GNode) (sh:Int):Ex s (qwe s sh):=Ex.turns _ sh _ s fun m hm=>A9.1 hm
structure Kp (x y:GEntry):Prop where
 state:x.state≤y.state
 first:x.state≠0→x.first=y.first
 body:2≤x.state→x.deps=y.deps∧x.ops=y.ops
 done:x.state=3→x=y
theorem Kp.refl (x:GEntry):Kp x x:=⟨Int.le_refl _,fun _=>rfl,fun _=>⟨rfl,rfl⟩,fun _=>rfl⟩
theorem Kp.trans {x y z:GEntry} (h0:0≤x.state) (h:Kp x y) (k:Kp y z):Kp x z:=by
 have h1:=h.state;refine ⟨Int.le_trans h.state k.state,fun hx=>(h.first hx).trans (k.first Gf),fun hx=>?_,fun hx=>?_⟩
 ·obtain ⟨a,b⟩:=h.body hx;obtain ⟨c,d⟩:=k.body Gf;exact ⟨a.trans c,b.trans d⟩
 ·have e:=h.done hx;rw [e];exact k.done (by rw [← e];exact hx)
structure KeepN (s t:GNode):Prop where
 ent:∀ k,k<32→Kp (eat s.entries k) (eat t.entries k)
 order:∃ L,t.order=s.order++L
theorem KeepN.refl (s:GNode):KeepN s s:=⟨fun _ _ => .refl _,[],by simp⟩
theorem qiz {s:GNode} {who:Int} {f:GFrame} (h:(qcs s who f).2.2=0):GoodN (qcs s who f).1:=by
 obtain ⟨hs,hw,hn,hz,hk⟩:=qun h;rw [qum hs hw hn hz];rcases hk with ⟨h1,ht⟩ | h3
 ·rw [qry h1 ht];exact hs.asked hz h1 _
 ·rw [qj7 h3];exact hs.commit hz h3 _
theorem q4i {s:GNode} {who:Int} {f:GFrame} (h:(qcs s who f).2.2=0):(qcs s who f).2.1.length≤100∧∀ x∈(qcs s who f).2.1,x.ops.length≤100∧x.deps.length≤100∧x.at_.length≤100∧x.vals.length≤100:=by
 have hz:=(qiz h).sizes;obtain ⟨hs,hw,hn,hf,hk⟩:=qun h;rw [qum hs hw hn hf] at hz ⊢;rcases hk with ⟨h1,ht⟩ | h3
 ·rw [qry h1 ht] at hz ⊢;have hz:NSz (q62 s f (ofZ who)) 33:=hz;refine ⟨by simp,fun x hx=>?_⟩;have hx:=Ag.1 hx;have:=(hz.ent f.id.toNat).first.1
  rw [hx];exact ⟨by simp [q0a],by show (eat _ _).first.length≤100;omega,by simp [q0a],by simp [q0a]⟩
 ·rw [qj7 h3] at hz ⊢;have hz:NSz (qeg s f (ofZ who)) 33:=hz;have h1:=(hz.ent f.id.toNat).at_.1;have h2:=(hz.ent f.id.toNat).values.1;show (qha _ _ _ _).length≤100∧∀ x∈qha _ _ _ _,_;unfold qha;have hkn:∀ x,x=qnv who f.id→x.ops.length≤100∧x.deps.length≤100∧x.at_.length≤100∧x.vals.length≤100:=by
   rintro x rfl;exact ⟨by simp [qnv],by simp [qnv],by simp [qnv],by simp [qnv]⟩
  cases ((eat (qeg s f (ofZ who)).entries f.id.toNat).state==3&&qag (eat (qeg s f (ofZ who)).entries f.id.toNat).ops (ofZ who))
  ·exact ⟨by simp,fun x hx=>hkn x (Ag.1 hx)⟩
  ·refine ⟨by simp,fun x hx=>?_⟩;rcases Ab.1 hx with hx | hx
   ·exact hkn x hx
   ·have hx:=Ag.1 hx;rw [hx];exact ⟨by simp [q61],by simp [q61],by show (eat _ _).at_.length≤100;omega,by show (eat _ _).values.length≤100;omega⟩
set_option maxHeartbeats 4000000
set_option maxRecDepth 100000
variable {M:Mm} {w:World} {fu:Nat}
def qh4 (fu:Nat):Option (GFrame × Int):=(some ({ kind:=Zr.zd,node:=Zr.zd,id:=Zr.zd,ops:=Zr.zd,deps:=Zr.zd,at_:=Zr.zd,vals:=Zr.zd }:GFrame)).bind fun a=>(some a).bind fun b=>some (b,1)
theorem qjt {r:GFrame × Int} (g:Agree M w)  (a:qh4 fu=some r) :
    Calls Tryz.prog 51 #[] w (Gives M w (fun h u=>∃ c,u= .tuple #[Gj c,Gi r.2]∧rep h c r.1)):=by
 refine Zk Tryz.func51 3 fun T n=>?_;have b:Gm w M [] w:=Zs g;rw [qh4] at a;refine Qy ?_;refine Ql (Zl q7l b ?_);intro _ w1 _ b;have d:rep M (Zr.zc GFrame) (Zr.zd:GFrame):=Zr.zr;refine Qa (Qf (Gi 0) rfl)<|Qj<|Qy ?_;obtain ⟨i,k,a⟩:=Qb a;obtain ⟨_,l,e⟩:∃ cs,qa1 (([(0,1),(1,1),(2,1),(3,1),(4,1),(5,1),(6,1)]:List (Nat × Nat))[·]?) (Zr.zc GFrame) []=some cs∧rep M cs i:=⟨_,Yd,Ye (x:=({ kind:=Zr.zd,node:=Zr.zd,id:=Zr.zd,ops:=Zr.zd,deps:=Zr.zd,at_:=Zr.zd,vals:=Zr.zd }:GFrame)) (Zr.zr:rep M (Zr.zc GFrame) (Zr.zd:GFrame)) k⟩;refine Qa (Z0 [] Xr Vq l) ?_;obtain ⟨_,m,a⟩:=Qb a;refine Ql (Z7 0 7 b d e (Lf (rr d) e) m ?_);intro _ _ f _ _ b;refine Qa (Qf (Gi 1) rfl)<|Qj ?_;cases a;exact Q2 (Uu (j:=0) rfl rfl rfl (V1 Jl f) b rfl (Ze b (Qc _ _ _) ⟨_,rfl,f⟩))
def qbn (b:ByteArray):Nat→Int→Int→Option Int
 | 0,_,_=>none
 | n+1,c,a=>(bif decide (a<6) then (qkl b a).bind fun d=>(qbn b n) (Gr ((Gr (256*c))+(Gr d))) (Gr (a+1)) else some (Gr (c-140737488355328)))
def qot (fu:Nat) (x1:ByteArray):Option Int := qbn x1 fu 0 0
theorem qyo {c:ByteArray} {r:Int} (p:Agree M w)  (a:qot fu c=some r) :
    Calls Tryz.prog 52 #[.string c] w (qav w (Gi r)):=by
 refine Zk Tryz.func52 18 fun T q=>?_;have s:T 0= .string c:=q 0;have e:Gm w M [] w:=Zs p;rw [qot] at a;refine Qy<|Qa (Qf (Gi 0) rfl)<|Qj<|Qy<|Qa (Qf (Gi 0) rfl)<|Qj<|Qt<|Qy<|Qa (Qd (Gi 0) rfl)<|Qj<|Qs ?_;refine Zy (fun i g k=>∃ h d b,Gl w M h∧Gm w h [] k∧g 0= .string c∧g 3=Gi d∧g 5=Gi b∧qbn c i d b=some r) fu ?_ ?_ ?_;exact ⟨M,(0:Int),(0:Int),(Qc _ _ _),e,s,rfl,rfl,a⟩;rintro g k ⟨_,_,_,_,_,_,_,_,a⟩;rw [qbn] at a;cases a;intro i;rintro _ _ ⟨h,d,b,t,e,l,m,j,a⟩;rw [qbn] at a;obtain ⟨_,n⟩:∃ f,f=qbn c i:=⟨_,rfl⟩;rw [← n] at a;refine Qy<|Qa (Zt j rfl)<|Qj<|Qt ?_;refine Q6 a rfl (fun u a=>?_) fun u a=>?_;refine Qk<|Qe<|Qt<|Qs<|Qy<|Zj j<|Qa (Qf (Gi b) rfl)<|Qj<|Q1<|Zj m<|Qa (q21 rfl rfl)<|Zj l<|Qa (Qd (Gi b) rfl) ?_;obtain ⟨o,v,a⟩:=Qb a;refine Qa (Jt Qu rfl rfl v)<|Qa (Ve ⟨_,Zc⟩ Zd rfl)<|Qa (Zu rfl rfl)<|Qa (Qf (Gi (Gr ((Gr (256*d))+(Gr o)))) rfl)<|Yn<|Q8<|Qe<|Q1<|Qa (Zu j rfl)<|Qa (Qd (Gi (Gr (b+1))) rfl)<|Qj ?_;exact ⟨h,(Gr ((Gr (256*d))+(Gr o))),(Gr (b+1)),t,e,l,rfl,rfl,(by rw [← n];exact a)⟩;refine Zp<|Qr<|Qr<|Zq<|Qe<|Qy<|Zj m<|Qa (Jh rfl rfl)<|Qa (Qf (Gi (Gr (d-140737488355328))) rfl)<|Qj ?_;cases a;exact Q2 (Yk rfl rfl ⟨rfl,e.kept⟩)
def qbd (fu:Nat) (c:ByteArray) (d:Int) (e:Int) (f:Int):Nat→GFrame→Int→Option (GFrame × Int)
 | 0,_,_=>none
 | n+1,a,b=>(bif decide (b<(Gr f)) then (qkl c (Gr ((Gr ((Gr (d+(Gr (1+(Gr e)))))+1))+(Gr (7*b))))).bind fun i=>(app a.at_ ([Gr i]:List Int)).bind fun j=>(some ({ a with at_:=j }:GFrame)).bind fun g=>(qs7 c (some (Gr ((Gr ((Gr (d+(Gr (1+(Gr e)))))+2))+(Gr (7*b))))) none).bind fun k=>(qot fu k).bind fun l=>(app g.vals ([l]:List Int)).bind fun m=>(some ({ g with vals:=m }:GFrame)).bind fun o=>(qbd fu c d e f n) o (Gr (b+1)) else (some (qaf a)).bind fun p=>(bif p != 0 then (qh4 fu).bind fun h=>(some h.1).bind fun q=>some (q,h.2) else (some a).bind fun r=>some (r,0)))
def qbe (fu:Nat) (a:ByteArray) (b:Int) (f:Int):Nat→GFrame→Int→Option (GFrame × Int)
 | 0,_,_=>none
 | n+1,d,e=>(bif decide (e<(Gr f)) then (qkl a (Gr ((Gr (b+1))+e))).bind fun h=>(app d.deps ([Gr h]:List Int)).bind fun i=>(some ({ d with deps:=i }:GFrame)).bind fun j=>(qbe fu a b f n) j (Gr (e+1)) else (qkl a b).bind fun c=>(qkl a (Gr (b+(Gr (1+(Gr c)))))).bind fun k=>(bif (a.size:Int) != (Gr ((Gr ((Gr (b+(Gr (1+(Gr c)))))+1))+(Gr (7*(Gr k))))) then (qh4 fu).bind fun g=>(some g.1).bind fun l=>some (l,g.2) else (qkl a (Gr (b+(Gr (1+(Gr c)))))).bind fun m=>qbd fu a b c m fu d 0))
def qhg (fu:Nat) (a:ByteArray) (c:GFrame) (b:Int) (e:GFrame):Option (GFrame × Int):=(qkl a b).bind fun d=>qbe fu a b d fu c 0
def qe2 (fu:Nat) (b:ByteArray) (c:GFrame) (d:GFrame) (e:Int) (f:Bool):Option (GFrame × Int):=(bif f then (qh4 fu).bind fun a=>(some a.1).bind fun g=>some (g,a.2) else qhg fu b c e d)
def qbf (fu:Nat) (a:ByteArray) (e:Int):Nat→GFrame→GFrame→Int→Int→Option (GFrame × Int)
 | 0,_,_,_,_=>none
 | n+1,c,d,b,f=>(bif decide (f<(Gr e)) then (bif decide ((a.size:Int)<(Gr (b+8))) then (qh4 fu).bind fun g=>(some g.1).bind fun h=>some (h,g.2) else (qkl a b).bind fun i=>(qkl a (Gr (b+1))).bind fun j=>(qs7 a (some (Gr (b+2))) none).bind fun k=>(qot fu k).bind fun l=>(some ({ kind:=Gr i,key:=Gr j,n:=l }:GOp)).bind fun m=>(app c.ops ([m]:List GOp)).bind fun o=>(some ({ c with ops:=o }:GFrame)).bind fun p=>(qbf fu a e n) p d (Gr (b+8)) (Gr (f+1))) else (bif decide ((a.size:Int)≤b) then qe2 fu a c d b true else (qkl a b).bind fun q=>qe2 fu a c d b (decide ((a.size:Int)≤(Gr ((Gr (b+1))+(Gr q)))))))
def qfo (fu:Nat) (a:ByteArray):Option (GFrame × Int):=(bif decide ((a.size:Int)<6) then (qh4 fu).bind fun b=>(some b.1).bind fun c=>some (c,b.2) else (qkl a 0).bind fun d=>(qkl a 1).bind fun e=>(qkl a 2).bind fun f=>(some ({ kind:=Gr d,node:=Gr e,id:=Gr f,ops:=Zr.zd,deps:=Zr.zd,at_:=Zr.zd,vals:=Zr.zd }:GFrame)).bind fun g=>(some g).bind fun h=>(qkl a 3).bind fun i=>qbf fu a i fu h (Zr.zd:GFrame) 4 0)
theorem qpq {e:ByteArray} {r:GFrame × Int} (hA:Agree M w)  (a:qfo fu e=some r) :
    Calls Tryz.prog 26 #[.string e] w (Gives M w (fun y u=>∃ i,u= .tuple #[Gj i,Gi r.2]∧rep y i r.1)):=by
 refine Zk Tryz.func26 167 fun T hT=>?_;have az:T 0= .string e:=hT 0;have b:Gm w M [] w:=Zs hA;rw [qfo] at a;refine Qy ?_;refine Ql (Zl q7l b ?_);intro b3 _ _ b;have a8:rep M (Zr.zc GFrame) (Zr.zd:GFrame):=Zr.zr;refine Qa (Qf (Gi 0) rfl)<|Qj<|Qy<|Qa (Qf (evT (fun _=>undef) (.func 51)) rfl)<|Qj<|Qt<|Qy<|Zj az<|Qa (Vl Qu rfl)<|Qa (Zt rfl rfl)<|Qj ?_;refine Q6 a rfl (fun e3 a=>?_) fun e3 a=>?_;refine Qy<|Qa (Qd (evT (fun _=>undef) (.func 51)) rfl) ?_;obtain ⟨r8,e4,a⟩:=Qb a;refine Ql (Ju rfl (Yi (vs:=[]) (rv:=(fun y u=>∃ i,u= .tuple #[Gj i,Gi r8.2]∧rep y i r8.1)) zgg q5y b (qjt b.agree e4)) ?_);intro _ _ _ dp e5 b;obtain ⟨e6,e7,dq⟩:=e5;subst e7;replace a8:=Zf dp a8;refine Qa (Q3 (v:= Gj e6) rfl rfl)<|Qa (Q3 (v:= Gi r8.2) rfl rfl) ?_;obtain ⟨_,e8,a⟩:=Qb a;refine Ql (Z7 0 7 b a8 dq (Lf (rr a8) dq) e8 ?_);intro _ _ dr _ _ b;refine Qa (Qf (Gi r8.2) rfl)<|Qj ?_;cases a;exact Q2 (Uu (j:=0) rfl rfl rfl (V1 Jl dr) b rfl (Ze b dp ⟨_,rfl,dr⟩));refine Qk<|Qe<|Qt<|Yp [] [] Z2 b fun jr b ds ab=>Qv 0 rfl (Qd _ az) ab ?_;obtain ⟨a9,e9,a⟩:=Qb a;refine Qv 1 rfl (Jt Qu rfl rfl e9) ab<|Qv 2 rfl (Ve ⟨_,Zc⟩ Zd rfl) ab<|Qv 3 rfl (Qd _ az) ab ?_;obtain ⟨ba,fa,a⟩:=Qb a;refine Qv 4 rfl (Jt Qu rfl rfl fa) ab<|Qv 5 rfl (Ve ⟨_,Zc⟩ Zd rfl) ab<|Qv 6 rfl (Qd _ az) ab ?_;obtain ⟨bb,fb,a⟩:=Qb a;refine Qv 7 rfl (Jt Qu rfl rfl fb) ab<|Qv 8 rfl (Ve ⟨_,Zc⟩ Zd rfl) ab ?_;have dt:=Kf (Zr.zr:rep M (Zr.zc GFrame) (Zr.zd:GFrame)) (ri (Gr a9):rep M _ _);have du:=Kg dt (ri (Gr ba):rep M _ _);have fc:=Kh du (ri (Gr bb):rep M _ _);obtain ⟨fd,fe,a⟩:=Qb a;obtain ⟨bs,bc,dv⟩:∃ cs,qa1 (([(0,1),(1,1),(2,1),(3,1),(4,1),(5,1),(6,1)]:List (Nat × Nat))[·]?) (Zr.zc GFrame) [(0,Gi (Gr a9)),(1,Gi (Gr ba)),(2,Gi (Gr bb))]=some cs∧rep M cs fd:=⟨_,(Zg (Zr.zr:rep M (Zr.zc GFrame) (Zr.zd:GFrame)) rfl rfl (X5 (ri (Gr a9):rep M _ _)) Gg (Zg dt rfl rfl (X5 (ri (Gr ba):rep M _ _)) Gg (Zg du rfl rfl (X5 (ri (Gr bb):rep M _ _)) Gg Yd))),Ye (x:=({ kind:=Gr a9,node:=Gr ba,id:=Gr bb,ops:=Zr.zd,deps:=Zr.zd,at_:=Zr.zd,vals:=Zr.zd }:GFrame)) fc fe⟩;have ff:sl bs 3 1=[.slice none 0 0]:=(Y7 bc (by rfl)).trans (by rfl);replace b:=b.nilRow 99 3;have fg:sl bs 4 1=[.slice none 0 0]:=(Y7 bc (by rfl)).trans (by rfl);replace b:=b.nilRow 3 1;have fh:sl bs 5 1=[.slice none 0 0]:=(Y7 bc (by rfl)).trans (by rfl);replace b:=b.nilRow 3 1;have fi:sl bs 6 1=[.slice none 0 0]:=(Y7 bc (by rfl)).trans (by rfl);replace b:=b.nilRow 3 1;refine Qv 9 rfl (Z0 [(0,Gi (Gr a9)),(1,Gi (Gr ba)),(2,Gi (Gr bb))] Xr (Y5 rfl (Y5 rfl (Y5 rfl Vq))) bc) ab ?_;refine w1 10 rfl (Zl q7l b ?_);intro o _ _ b;have dw:rep M (Zr.zc GFrame) (Zr.zd:GFrame):=Zr.zr;have ju:sl (Zr.zc GFrame) 3 1=[.slice none 0 0]:=by rfl
 replace b:=b.nilRow 99 3;have jv:sl (Zr.zc GFrame) 4 1=[.slice none 0 0]:=by rfl
 replace b:=b.nilRow 3 1;have jw:sl (Zr.zc GFrame) 5 1=[.slice none 0 0]:=by rfl
 replace b:=b.nilRow 3 1;have jx:sl (Zr.zc GFrame) 6 1=[.slice none 0 0]:=by rfl
 replace b:=b.nilRow 3 1;refine Yj b ds fun jy=>?_;obtain ⟨fj,fk,a⟩:=Qb a;refine w1 11 rfl (Z7 4 7 b dw dv (Lf (rr dw) dv) fk ?_);intro bd _ fl _ bu b;have fm:sl bd (0+3) 1=[(.slice none 0 0)]:=Ka bu ff Gg;have fn:sl bd (0+4) 1=[(.slice none 0 0)]:=Ka bu fg Gg;have fo:sl bd (0+5) 1=[(.slice none 0 0)]:=Ka bu fh Gg;have fp:sl bd (0+6) 1=[(.slice none 0 0)]:=Ka bu fi Gg;refine Yj b ds fun j1=>wd<|Qe<|Qy<|Qa (Qf (Gi 4) rfl)<|Qj<|Qt<|Qy<|Zj az ?_;obtain ⟨cm,fq,a⟩:=Qb a;refine Qa (Jt Qu rfl rfl fq)<|Qa (Ve ⟨_,Zc⟩ Zd rfl)<|Qa (Qd (Gi 0) rfl)<|Qj<|Qs ?_;refine Zy (fun cn c t=>∃ g z a0 a1 a2 s ap af ag d be,Gl w M g∧Gm w g [.row (.slice none 0 0) 3 1,.row (.slice none 0 0) 3 1,.row (.slice none 0 0) 3 1,.row (.slice none 0 0) 99 3,Gp o z 82,.row ag 3 1,.row af 3 1,.row ap 3 1,.row s 99 3,Gp b3 a1 82] t∧rep g z a0∧rep g a1 a2∧sl z (0+3) 1=[s]∧sl z (0+4) 1=[ap]∧sl z (0+5) 1=[af]∧sl z (0+6) 1=[ag]∧c 0= .string e∧c 2=Gk b3∧c 4=evT (fun _=>undef) (.func 51)∧c 5=Gk o∧c 6=Gi d∧c 28=Gi (Gr cm)∧c 29=Gi be∧qbf fu e cm cn a0 a2 d be=some r) fu ?_ ?_ ?_;exact ⟨M,bd,fj,(Zr.zc GFrame),(Zr.zd:GFrame),(.slice none 0 0),(.slice none 0 0),(.slice none 0 0),(.slice none 0 0),(4:Int),(0:Int),(Qc _ _ _),b,fl,a8,fm,fn,fo,fp,az,rfl,rfl,rfl,rfl,rfl,rfl,a⟩;rintro c t ⟨_,_,_,_,_,_,_,_,_,_,_,_,_,_,_,_,_,_,_,_,_,_,_,_,_,_,a⟩;rw [qbf] at a;cases a;intro cn;rintro _ _ ⟨g,z,a0,a1,a2,s,ap,af,ag,d,be,a3,b,ah,p,co,dx,dy,dz,ac,bg,bv,bh,ad,d0,d1,a⟩;rw [qbf] at a;obtain ⟨_,d2⟩:∃ f,f=qbf fu e cm cn:=⟨_,rfl⟩;rw [← d2] at a;refine Qy<|Qa (Zt d1 d0)<|Qj<|Qt ?_;refine Q6 a rfl (fun fr a=>?_) fun fr a=>?_;refine Qk<|Qe<|Qt<|Qs<|Qt<|Qy<|Zj ac<|Qa (Vl Qu rfl)<|Zj ad<|Qa (Zu rfl rfl)<|Qa (Zt rfl rfl)<|Qj ?_;refine Q6 a rfl (fun fs a=>?_) fun fs a=>?_;refine Qy<|Zj bv ?_;obtain ⟨bw,ft,a⟩:=Qb a;refine Ql (Ju rfl (Yi (vs:=[]) (rv:=(fun y u=>∃ i,u= .tuple #[Gj i,Gi bw.2]∧rep y i bw.1)) zgg q5y b (qjt b.agree ft)) ?_);intro _ _ _ d3 fv b;obtain ⟨fw,fx,d4⟩:=fv;subst fx;replace p:=Zf d3 p;refine Qa (Q3 (v:= Gj fw) rfl rfl)<|Qa (Q3 (v:= Gi bw.2) rfl rfl) ?_;obtain ⟨_,fy,a⟩:=Qb a;refine Ql<|Z3 9 7 b rfl p bg rfl d4 rfl rfl (Lf (rr p) d4) fy fun j9 ka d5 kb kc b=>Qa (Qf (Gi bw.2) rfl)<|Qj ?_;cases a;exact Q2 (Uu (j:=9) rfl bg rfl (V1 Jl d5) b rfl (Ze b (a3.trans d3) ⟨_,rfl,d5⟩));refine Qk<|Qe<|Qt<|Yp [Gp o z 82] [20] Z2 b fun kd b cp m=>Qv 0 rfl (Qi Kd bh) m ?_;obtain ⟨_,fz,bx⟩:=(Y2 (rr ah));rw [Y6 fz co] at bx;refine Yx 1 rfl (Qh s Va rfl (Yl 0 rfl) co) m<|Qv 2 rfl (Qd _ ac) m<|Qv 3 rfl (Qd _ ad) m ?_;obtain ⟨bi,f0,a⟩:=Qb a;refine Qv 4 rfl (Jt Qu rfl rfl f0) m<|Qv 5 rfl (Ve ⟨_,Zc⟩ Zd rfl) m<|Qv 6 rfl (Qd _ ac) m<|Qv 7 rfl (Qd _ ad) m<|Qv 8 rfl (Zu rfl rfl) m ?_;obtain ⟨bj,f1,a⟩:=Qb a;refine Qv 9 rfl (Jt Qu rfl rfl f1) m<|Qv 10 rfl (Ve ⟨_,Zc⟩ Zd rfl) m<|Qv 11 rfl (Qd _ ac) m<|Qv 12 rfl (Qd _ ad) m<|Qv 13 rfl (Zu rfl rfl) m ?_;obtain ⟨f2,cq,a⟩:=Qb a;obtain ⟨⟨_,_⟩,f3,cq⟩:=Ar.1 cq;refine Qv 14 rfl ((cq ▸ Un (l:=(some (Gr (d+2)))) (h:=none) Qu rfl (evs rfl) evn f3)) m ?_;obtain ⟨a4,f4,a⟩:=Qb a;refine w1 15 rfl<|Zi (vs:=[.string f2]) (v:= Gi a4) cb52 (Zm rfl) b (qyo b.agree f4) fun kh b=>Yj b cp fun f5=>?_;have d6:=GOp.w0 (Zr.zr:rep g (Zr.zc GOp) (Zr.zd:GOp)) (ri (Gr bi):rep g _ _);have d7:=GOp.w1 d6 (ri (Gr bj):rep g _ _);have f6:=GOp.w2 d7 (ri a4:rep g _ _);obtain ⟨d8,f7,a⟩:=Qb a;obtain ⟨f8,ga,gb⟩:∃ cs,qa1 (([(0,1),(1,1),(2,1)]:List (Nat × Nat))[·]?) (Zr.zc GOp) [(0,Gi (Gr bi)),(1,Gi (Gr bj)),(2,Gi a4)]=some cs∧rep g cs d8:=⟨_,(Zg (Zr.zr:rep g (Zr.zc GOp) (Zr.zd:GOp)) rfl rfl (X5 (ri (Gr bi):rep g _ _)) Gg (Zg d6 rfl rfl (X5 (ri (Gr bj):rep g _ _)) Gg (Zg d7 rfl rfl (X5 (ri a4:rep g _ _)) Gg Yd))),Ye (x:=({ kind:=Gr bi,key:=Gr bj,n:=a4 }:GOp)) f6 f7⟩;refine Qv 16 rfl (Z0 [(0,Gi (Gr bi)),(1,Gi (Gr bj)),(2,Gi a4)] tb99 (Y5 rfl (Y5 rfl (Y5 rfl Vq))) ga) f5 ?_;refine w1 17 rfl (Z1 (α := GOp) (l:=([d8]:List GOp)) [Gj f8] tl27 (Y5 rfl Vq) rfl rfl Gg Gg Gg b (Jq gb J1) ?_);intro _ _ _ a5 gc b;replace bx:=Qo a5.1 bx;refine Yj b (cp.trans a5) fun kl=>?_;obtain ⟨_,ge,gf,a⟩:=Z5 a;refine w1 18 rfl (Yv (α := GOp) (j:=8) zb2 b rfl rfl rfl bx gc ge ?_);intro gg gh _ bz b0 b;rw [← gf] at b0;replace ah:=Zf (a5.trans bz) ah;replace p:=Zf (a5.trans bz) p;refine Yj b (cp.trans (a5.trans bz)) fun gi=>Qv 19 rfl (Qi Kd bh) gi ?_;obtain ⟨gj,gk,a⟩:=Qb a;refine w1 20 rfl (Z3 4 1 b rfl ah rfl rfl (Qq b0) (Q4 b0) rfl (GFrame.u3 (rr ah) (Lf (Y2 (rr ah)) (Qq b0))) gk ?_);intro gl _ gm cr gn b;have go:=(cr Gf).trans dx;have gp:=(cr Gf).trans dy;have gq:=(cr Gf).trans dz;have gr:=gn;refine ⟨nB,?_⟩;refine wd<|Qe<|Q1<|Zj ad<|Qa (Zu rfl rfl)<|Qa (Qf (Gi (Gr (d+8))) rfl)<|Yn<|Q8<|Qe<|Q1<|Qa (Zu d1 rfl)<|Qa (Qd (Gi (Gr (be+1))) rfl)<|Qj ?_;exact ⟨gh,gl,gj,a1,a2,gg,ap,af,ag,(Gr (d+8)),(Gr (be+1)),(a3.trans (a5.trans bz)),b,gm,p,gr,go,gp,gq,ac,bg,bv,bh,rfl,d0,rfl,(by rw [← d2];exact a)⟩;refine Zp<|Qr<|Qr<|Zq<|Qe ?_;refine Qp (fun c t=>∃ a6 bk ct,Gl w g a6∧Gm w a6 [.row (.slice none 0 0) 3 1,.row (.slice none 0 0) 3 1,.row (.slice none 0 0) 3 1,.row (.slice none 0 0) 99 3,Gp o z 82,.row ag 3 1,.row af 3 1,.row ap 3 1,.row s 99 3,Gp b3 bk 82] t∧rep a6 bk ct∧c 0= .string e∧c 2=Gk b3∧c 4=evT (fun _=>undef) (.func 51)∧c 5=Gk o∧c 6=Gi d∧qhg fu e a0 d ct=some r) ?_ ?_;refine Qp (fun c t=>∃ b1 cu,Gl w g b1∧Gm w b1 [.row (.slice none 0 0) 3 1,.row (.slice none 0 0) 3 1,.row (.slice none 0 0) 3 1,.row (.slice none 0 0) 99 3,Gp o z 82,.row ag 3 1,.row af 3 1,.row ap 3 1,.row s 99 3,Gp b3 a1 82] t∧c 0= .string e∧c 2=Gk b3∧c 4=evT (fun _=>undef) (.func 51)∧c 5=Gk o∧c 6=Gi d∧c 78= .bool cu∧qe2 fu e a0 a2 d cu=some r) ?_ ?_;refine Q1<|Zj ac<|Qa (Vl Qu rfl)<|Zj ad<|Qa (q22 rfl rfl)<|Qa (Qd (.bool (decide ((e.size:Int)≤d))) rfl) ?_;rcases ic a with ⟨d9,a⟩ | ⟨d9,a⟩<;>rw [d9];refine Qw 11 rfl<|Qj ?_;exact ⟨g,true,(Qc _ _ _),b,ac,bg,bv,bh,ad,rfl,a⟩;refine Qg rfl rfl (Qd _ ac)<|Qg rfl rfl (Vl Qu rfl)<|Qg rfl rfl (Qd _ ad)<|Qg rfl rfl (Zu rfl rfl)<|Qg rfl rfl (Qd _ ac)<|Qg rfl rfl (Qd _ ad) ?_;obtain ⟨ea,gs,a⟩:=Qb a;refine Qg rfl rfl (Jt Qu rfl rfl gs)<|Qg rfl rfl (Ve ⟨_,Zc⟩ Zd rfl)<|Qg rfl rfl (Zu rfl rfl)<|Qg rfl rfl (q22 rfl rfl)<|Qa (Q7 (.bool (decide ((e.size:Int)≤(Gr ((Gr (d+1))+(Gr ea)))))) rfl rfl)<|Qj ?_;exact ⟨g,(decide ((e.size:Int)≤(Gr ((Gr (d+1))+(Gr ea))))),(Qc _ _ _),b,ac,bg,bv,bh,ad,rfl,a⟩;rintro _ _ ⟨b1,cu,cv,b,gt,cw,eb,gu,gv,gw,a⟩;replace p:=Zf cv p;rw [qe2] at a;refine Q6 a gw (fun gx a=>?_) fun gx a=>?_;refine Qy<|Zj eb ?_;obtain ⟨b2,gy,a⟩:=Qb a;refine Ql (Ju rfl (Yi (vs:=[]) (rv:=(fun y u=>∃ i,u= .tuple #[Gj i,Gi b2.2]∧rep y i b2.1)) zgg q5y b (qjt b.agree gy)) ?_);intro _ _ _ ec gz b;obtain ⟨g1,g2,ed⟩:=gz;subst g2;replace p:=Zf ec p;refine Qa (Q3 (v:= Gj g1) rfl rfl)<|Qa (Q3 (v:= Gi b2.2) rfl rfl) ?_;obtain ⟨_,g3,a⟩:=Qb a;refine Ql<|Z3 9 7 b rfl p cw rfl ed rfl rfl (Lf (rr p) ed) g3 fun kv kw ee kx ky b=>Qa (Qf (Gi b2.2) rfl)<|Qj ?_;cases a;exact Q2 (Uu (j:=9) rfl cw rfl (V1 Jl ee) b rfl (Ze b (a3.trans (cv.trans ec)) ⟨_,rfl,ee⟩));refine Qk<|Qe ?_;exact ⟨b1,a1,a2,cv,b,p,gt,cw,eb,gu,gv,a⟩;rintro _ _ ⟨a6,bk,ct,b4,b,q,ef,g4,g5,g6,eg,a⟩;replace ah:=Zf b4 ah;rw [qhg] at a;refine Qt<|Qy<|Zj ef<|Zj eg ?_;obtain ⟨cx,g7,a⟩:=Qb a;refine Qa (Jt Qu rfl rfl g7)<|Qa (Ve ⟨_,Zc⟩ Zd rfl)<|Qa (Qd (Gi 0) rfl)<|Qj<|Qs ?_;refine Zy (fun cy c t=>∃ aq ai b5 aj ar,Gl w a6 aq∧Gm w aq [.row (.slice none 0 0) 3 1,.row (.slice none 0 0) 3 1,.row (.slice none 0 0) 3 1,.row (.slice none 0 0) 99 3,Gp o ai 82,.row ag 3 1,.row af 3 1,.row aj 3 1,.row s 99 3,Gp b3 bk 82] t∧rep aq ai b5∧sl ai (0+3) 1=[s]∧sl ai (0+4) 1=[aj]∧sl ai (0+5) 1=[af]∧sl ai (0+6) 1=[ag]∧c 0= .string e∧c 2=Gk b3∧c 4=evT (fun _=>undef) (.func 51)∧c 5=Gk o∧c 6=Gi d∧c 86=Gi (Gr cx)∧c 87=Gi ar∧qbe fu e d cx cy b5 ar=some r) fu ?_ ?_ ?_;exact ⟨a6,z,a0,ap,(0:Int),(Qc _ _ _),b,ah,co,dx,dy,dz,ef,g4,g5,g6,eg,rfl,rfl,a⟩;rintro c t ⟨_,_,_,_,_,_,_,_,_,_,_,_,_,_,_,_,_,_,_,a⟩;rw [qbe] at a;cases a;intro cy;rintro _ _ ⟨aq,ai,b5,aj,ar,bl,b,au,eh,c1,ei,ej,av,b6,c2,b7,b8,ek,c3,a⟩;replace q:=Zf bl q;rw [qbe] at a;obtain ⟨_,el⟩:∃ f,f=qbe fu e d cx cy:=⟨_,rfl⟩;rw [← el] at a;refine Qy<|Qa (Zt c3 ek)<|Qj<|Qt ?_;refine Q6 a rfl (fun g8 a=>?_) fun g8 a=>?_;refine Qk<|Qe<|Qt<|Qs<|Qy<|Zj c3<|Qa (Qf (Gi ar) rfl)<|Qj<|Yp [Gp o ai 82] [12] Z2 b fun k4 b em ak=>Qv 0 rfl (Qi V0 b7) ak ?_;obtain ⟨_,g9,b9⟩:=(Ys (rr au));rw [Y6 g9 c1] at b9;refine Yx 1 rfl (Qh aj Zz rfl (Yl 0 rfl) c1) ak<|Qv 2 rfl (Qd _ av) ak<|Qv 3 rfl (Qd _ b8) ak<|Qv 4 rfl (Zu rfl rfl) ak<|Qv 5 rfl (Qd (Gi ar) rfl) ak<|Qv 6 rfl (Zu rfl rfl) ak ?_;obtain ⟨c4,ha,a⟩:=Qb a;refine Qv 7 rfl (Jt Qu rfl rfl ha) ak<|Qv 8 rfl (Ve ⟨_,Zc⟩ Zd rfl) ak ?_;refine w1 9 rfl (Z1 (α := Int) (l:=([Gr c4]:List Int)) [Gi (Gr c4)] J8 (Y5 rfl Vq) rfl rfl Gg Gg Gg b (Jq (ri (Gr c4):rep aq _ _) J1) ?_);intro _ _ _ bm hb b;replace b9:=Qo bm.1 b9;refine Yj b (em.trans bm) fun k9=>?_;obtain ⟨_,hc,hd,a⟩:=Z5 a;refine w1 10 rfl (Yv (α := Int) (j:=7) K2 b rfl rfl rfl b9 hb hc ?_);intro he hf _ c5 ca b;rw [← hd] at ca;replace au:=Zf (bm.trans c5) au;refine Yj b (em.trans (bm.trans c5)) fun hg=>Qv 11 rfl (Qi V0 b7) hg ?_;obtain ⟨hh,hi,a⟩:=Qb a;refine w1 12 rfl (Z3 4 1 b rfl au rfl rfl (Qq ca) (Q4 ca) rfl (GFrame.u4 (rr au) (Lf (Ys (rr au)) (Qq ca))) hi ?_);intro hj _ hk c6 hl b;have hm:=(c6 Gf).trans eh;have hn:=(c6 Gf).trans ei;have ho:=(c6 Gf).trans ej;have hp:=hl;refine ⟨nB,?_⟩;refine wd<|Q8<|Qe<|Q1<|Qa (Zu c3 rfl)<|Qa (Qd (Gi (Gr (ar+1))) rfl)<|Qj ?_;exact ⟨hf,hj,hh,he,(Gr (ar+1)),(bl.trans (bm.trans c5)),b,hk,hm,hp,hn,ho,av,b6,c2,b7,b8,ek,rfl,(by rw [← el];exact a)⟩;refine Zp<|Qr<|Qr<|Zq<|Qe<|Qy<|Zj b8<|Zj av<|Zj b8 ?_;obtain ⟨an,hq,a⟩:=Qb a;refine Qa (Jt Qu rfl rfl hq)<|Qa (Ve ⟨_,Zc⟩ Zd rfl)<|Qa (Zu rfl rfl)<|Qa (Zu rfl rfl)<|Qa (Qf (Gi (Gr (d+(Gr (1+(Gr an)))))) rfl)<|Qj<|Qt<|Qy<|Zj av<|Qa (Vl Qu rfl)<|Qa (Qd (Gi (Gr (d+(Gr (1+(Gr an)))))) rfl)<|Qa (Zu rfl rfl)<|Zj av<|Qa (Qd (Gi (Gr (d+(Gr (1+(Gr an)))))) rfl) ?_;obtain ⟨_,hr,a⟩:=Qb a;refine Qa (Jt Qu rfl rfl hr)<|Qa (Ve ⟨_,Zc⟩ Zd rfl)<|Qa (q21 rfl rfl)<|Qa (Zu rfl rfl)<|Qa (Ym rfl rfl)<|Qj ?_;refine Q6 a rfl (fun hs a=>?_) fun hs a=>?_;refine Qy<|Zj c2 ?_;obtain ⟨cb,ht,a⟩:=Qb a;refine Ql (Ju rfl (Yi (vs:=[]) (rv:=(fun y u=>∃ i,u= .tuple #[Gj i,Gi cb.2]∧rep y i cb.1)) zgg q5y b (qjt b.agree ht)) ?_);intro _ _ _ en hu b;obtain ⟨hv,hw,eo⟩:=hu;subst hw;replace q:=Zf en q;refine Qa (Q3 (v:= Gj hv) rfl rfl)<|Qa (Q3 (v:= Gi cb.2) rfl rfl) ?_;obtain ⟨_,hx,a⟩:=Qb a;refine Ql<|Z3 9 7 b rfl q b6 rfl eo rfl rfl (Lf (rr q) eo) hx fun lj lk ep ll lm b=>Qa (Qf (Gi cb.2) rfl)<|Qj ?_;cases a;exact Q2 (Uu (j:=9) rfl b6 rfl (V1 Jl ep) b rfl (Ze b (a3.trans (b4.trans (bl.trans en))) ⟨_,rfl,ep⟩));refine Qk<|Qe<|Qt<|Qy<|Zj av<|Qa (Qd (Gi (Gr (d+(Gr (1+(Gr an)))))) rfl) ?_;obtain ⟨c7,hy,a⟩:=Qb a;refine Qa (Jt Qu rfl rfl hy)<|Qa (Ve ⟨_,Zc⟩ Zd rfl)<|Qa (Qd (Gi 0) rfl)<|Qj<|Qs ?_;refine Zy (fun c8 c t=>∃ bn k c9 aw ax al,Gl w aq bn∧Gm w bn [.row (.slice none 0 0) 3 1,.row (.slice none 0 0) 3 1,.row (.slice none 0 0) 3 1,.row (.slice none 0 0) 99 3,Gp o k 82,.row ax 3 1,.row aw 3 1,.row aj 3 1,.row s 99 3,Gp b3 bk 82] t∧rep bn k c9∧sl k (0+3) 1=[s]∧sl k (0+4) 1=[aj]∧sl k (0+5) 1=[aw]∧sl k (0+6) 1=[ax]∧c 0= .string e∧c 2=Gk b3∧c 4=evT (fun _=>undef) (.func 51)∧c 5=Gk o∧c 6=Gi (Gr (d+(Gr (1+(Gr an)))))∧c 128=Gi (Gr c7)∧c 129=Gi al∧qbd fu e d an c7 c8 c9 al=some r) fu ?_ ?_ ?_;exact ⟨aq,ai,b5,af,ag,(0:Int),(Qc _ _ _),b,au,eh,c1,ei,ej,av,b6,c2,b7,rfl,rfl,rfl,a⟩;rintro c t ⟨_,_,_,_,_,_,_,_,_,_,_,_,_,_,_,_,_,_,_,_,a⟩;rw [qbd] at a;cases a;intro c8;rintro _ _ ⟨bn,k,c9,aw,ax,al,cc,b,ao,da,db,cd,dc,dd,bo,er,ay,de,es,df,a⟩;replace q:=Zf cc q;rw [qbd] at a;obtain ⟨_,et⟩:∃ f,f=qbd fu e d an c7 c8:=⟨_,rfl⟩;rw [← et] at a;refine Qy<|Qa (Zt df es)<|Qj<|Qt ?_;refine Q6 a rfl (fun h0 a=>?_) fun h0 a=>?_;refine Qk<|Qe<|Qt<|Qs<|Qy<|Zj df<|Qa (Qf (Gi al) rfl)<|Qj<|Qt<|Yp [Gp o k 82] [13] Z2 b fun lq b eu ae=>Qv 0 rfl (Qi Kw ay) ae ?_;obtain ⟨_,h1,ce⟩:=(Vc (rr ao));rw [Y6 h1 cd] at ce;refine Yx 1 rfl (Qh aw Zz rfl (Yl 0 rfl) cd) ae<|Qv 2 rfl (Qd _ dd) ae<|Qv 3 rfl (Qd _ de) ae<|Qv 4 rfl (Zu rfl rfl) ae<|Qv 5 rfl (Qd (Gi al) rfl) ae<|Qv 6 rfl (q21 rfl rfl) ae<|Qv 7 rfl (Zu rfl rfl) ae ?_;obtain ⟨dg,h2,a⟩:=Qb a;refine Qv 8 rfl (Jt Qu rfl rfl h2) ae<|Qv 9 rfl (Ve ⟨_,Zc⟩ Zd rfl) ae ?_;refine w1 10 rfl (Z1 (α := Int) (l:=([Gr dg]:List Int)) [Gi (Gr dg)] J8 (Y5 rfl Vq) rfl rfl Gg Gg Gg b (Jq (ri (Gr dg):rep bn _ _) J1) ?_);intro _ _ _ bp h3 b;replace ce:=Qo bp.1 ce;refine Yj b (eu.trans bp) fun lw=>?_;obtain ⟨_,h4,h5,a⟩:=Z5 a;refine w1 11 rfl (Yv (α := Int) (j:=6) K2 b rfl rfl rfl ce h3 h4 ?_);intro h6 h7 _ dh cf b;rw [← h5] at cf;replace ao:=Zf (bp.trans dh) ao;refine Yj b (eu.trans (bp.trans dh)) fun h8=>Qv 12 rfl (Qi Kw ay) h8 ?_;obtain ⟨_,h9,a⟩:=Qb a;refine w1 13 rfl (Z3 4 1 b rfl ao rfl rfl (Qq cf) (Q4 cf) rfl (GFrame.u5 (rr ao) (Lf (Vc (rr ao)) (Qq cf))) h9 ?_);intro ia _ a7 di ib b;have ie:=(di Gf).trans da;have ig:=(di Gf).trans db;have ev:=(di Gf).trans dc;have ih:=ib;refine ⟨nB,?_⟩;refine wd<|Qe<|Yp [Gp o ia 82] [13] Z2 b fun l1 b dj am=>Qv 0 rfl (Qi Je ay) am ?_;obtain ⟨_,ii,cg⟩:=(Vr (rr a7));rw [Y6 ii ev] at cg;refine Yx 1 rfl (Qh ax Zz rfl (Yl 0 rfl) ev) am<|Qv 2 rfl (Qd _ dd) am<|Qv 3 rfl (Qd _ de) am<|Qv 4 rfl (Zu rfl rfl) am<|Qv 5 rfl (Qd (Gi al) rfl) am<|Qv 6 rfl (q21 rfl rfl) am<|Qv 7 rfl (Zu rfl rfl) am ?_;obtain ⟨ij,dk,a⟩:=Qb a;obtain ⟨⟨_,_⟩,ik,dk⟩:=Ar.1 dk;refine Qv 8 rfl ((dk ▸ Un (l:=(some (Gr ((Gr ((Gr (d+(Gr (1+(Gr an)))))+2))+(Gr (7*al)))))) (h:=none) Qu rfl (evs rfl) evn ik)) am ?_;obtain ⟨ch,il,a⟩:=Qb a;refine w1 9 rfl<|Zi (vs:=[.string ij]) (v:= Gi ch) cb52 (Zm rfl) b (qyo b.agree il) fun l5 b=>Yj b dj fun l6=>?_;refine w1 10 rfl (Z1 (α := Int) (l:=([ch]:List Int)) [Gi ch] J8 (Y5 rfl Vq) rfl rfl Gg Gg Gg b (Jq (ri ch:rep h7 _ _) J1) ?_);intro _ _ _ bq im b;replace cg:=Qo bq.1 cg;refine Yj b (dj.trans bq) fun ma=>?_;obtain ⟨_,io,ip,a⟩:=Z5 a;refine w1 11 rfl (Yv (α := Int) (j:=5) K2 b rfl rfl rfl cg im io ?_);intro iq ir _ dl ci b;rw [← ip] at ci;replace a7:=Zf (bq.trans dl) a7;refine Yj b (dj.trans (bq.trans dl)) fun iu=>Qv 12 rfl (Qi Je ay) iu ?_;obtain ⟨iv,iw,a⟩:=Qb a;refine w1 13 rfl (Z3 4 1 b rfl a7 rfl rfl (Qq ci) (Q4 ci) rfl (GFrame.u6 (rr a7) (Lf (Vr (rr a7)) (Qq ci))) iw ?_);intro ix _ iy dm iz b;have i0:=(dm Gf).trans ie;have i1:=(dm Gf).trans ig;have i2:=(dm Gf).trans ih;have i3:=iz;refine ⟨nB,?_⟩;refine wd<|Q8<|Qe<|Q1<|Qa (Zu df rfl)<|Qa (Qd (Gi (Gr (al+1))) rfl)<|Qj ?_;exact ⟨ir,ix,iv,h6,iq,(Gr (al+1)),(cc.trans (bp.trans (dh.trans (bq.trans dl)))),b,iy,i0,i1,i2,i3,dd,bo,er,ay,de,es,rfl,(by rw [← et];exact a)⟩;refine Zp<|Qr<|Qr<|Zq<|Qe<|Qt<|Qy ?_;have ew:=(rr ao);have me:sl (sl k (0) 7) 3 1=[s]:=(Vu Gg).trans da;have mf:sl (sl k (0) 7) 4 1=[aj]:=(Vu Gg).trans db;have mg:sl (sl k (0) 7) 5 1=[aw]:=(Vu Gg).trans cd;have mh:sl (sl k (0) 7) 6 1=[ax]:=(Vu Gg).trans dc;refine Qa (Za Jl ay (b.bvB 4 rfl) (X5 ew)) ?_;obtain ⟨i4,i5,a⟩:=Qz a;refine Ql<|Zi (vs:=[Gj (sl k (0) 7)]) (v:= Gi i4) zhf (Zm rfl) b (i5 ▸ (Xn b.agree ew)) fun mi b=>Qa (Ym rfl rfl)<|Qj ?_;refine Q6 a rfl (fun i6 a=>?_) fun i6 a=>?_;refine Qy<|Zj er ?_;obtain ⟨cj,i7,a⟩:=Qb a;refine Ql (Ju rfl (Yi (vs:=[]) (rv:=(fun y u=>∃ i,u= .tuple #[Gj i,Gi cj.2]∧rep y i cj.1)) zgg q5y b (qjt b.agree i7)) ?_);intro _ _ _ ex i8 b;obtain ⟨i9,ja,ey⟩:=i8;subst ja;replace q:=Zf ex q;refine Qa (Q3 (v:= Gj i9) rfl rfl)<|Qa (Q3 (v:= Gi cj.2) rfl rfl) ?_;obtain ⟨_,jb,a⟩:=Qb a;refine Ql<|Z3 9 7 b rfl q bo rfl ey rfl rfl (Lf (rr q) ey) jb fun mn mo ez mp mq b=>Qa (Qf (Gi cj.2) rfl)<|Qj ?_;cases a;exact Q2 (Uu (j:=9) rfl bo rfl (V1 Jl ez) b rfl (Ze b (a3.trans (b4.trans (bl.trans (cc.trans ex)))) ⟨_,rfl,ez⟩));refine Qk<|Qe<|Qy ?_;have dn:=(rr ao);have jc:sl (sl k (0) 7) 3 1=[s]:=(Vu Gg).trans da;have jd:sl (sl k (0) 7) 4 1=[aj]:=(Vu Gg).trans db;have je:sl (sl k (0) 7) 5 1=[aw]:=(Vu Gg).trans cd;have jf:sl (sl k (0) 7) 6 1=[ax]:=(Vu Gg).trans dc;refine Qa (Za Jl ay (b.bvB 4 rfl) (X5 dn)) ?_;obtain ⟨_,jg,a⟩:=Qb a;refine Ql (Z3 9 7 b rfl q bo rfl dn rfl rfl (Lf (rr q) dn) jg ?_);intro ck _ e0 _ cl b;have mu:sl ck (0+3) 1=[s]:=Ka cl jc Gg;have mv:sl ck (0+4) 1=[aj]:=Ka cl jd Gg;have mw:sl ck (0+5) 1=[aw]:=Ka cl je Gg;have mx:sl ck (0+6) 1=[ax]:=Ka cl jf Gg;refine Qa (Qf (Gi 0) rfl)<|Qj ?_;cases a;exact Q2 (Uu (j:=9) rfl bo rfl (V1 Jl e0) b rfl (Ze b (a3.trans (b4.trans (bl.trans cc))) ⟨_,rfl,e0⟩))
theorem qfp {s:ByteArray} {n k:Nat} {y c:Int} (hk:k<6) (h0:0≤y) (h1:y<1099511627776) (hc:(byL s)[k]? = some c) (h2:0≤c) (h3:c<256):qbn s (n+1) y k=qbn s n (y*256+c) ((k+1:Nat):Int):=by
 rw [qbn,qae (qac Gf),qnb,hc,qaa,qa3 (x:=256*y) Gf Gf,qa3 (x:=c) Gf Gf,qa3 (x:=256*y+c) Gf Gf,qa3 (x:=(k:Int)+1) Gf Gf,Int.mul_comm 256 y];rfl
theorem qwj {s:ByteArray} {fu:Nat} (hf:8≤fu) {a b c d e f:Int} {t:List Int} (h:byL s=a::b::c::d::e::f::t):qot fu s=some (q7m a b c d e f):=by
 have hr:∀ z∈[a,b,c,d,e,f],0≤z∧z<256:=fun z hz=>qdr (s:=s) (by rw [h];simp at hz ⊢;rcases hz with rfl | rfl | rfl | rfl | rfl | rfl<;>simp);have ha:=hr a (by simp);have hb:=hr b (by simp);have hc:=hr c (by simp);have hd:=hr d (by simp);have he:=hr e (by simp);have hff:=hr f (by simp);obtain ⟨n,rfl⟩:∃ n,fu=n+7:=⟨fu-7,by omega⟩;have e0:qbn s (n+7) 0 0=_:=qfp (s:=s) (n:=n+6) (k:=0) (y:=0) (c:=a) Gf Gf Gf (by rw [h];rfl) ha.1 ha.2;have e1:=qfp (s:=s) (n:=n+5) (k:=1) (y:=0*256+a) (c:=b) Gf Gf Gf (by rw [h];rfl) hb.1 hb.2;have e2:=qfp (s:=s) (n:=n+4) (k:=2) (y:=(0*256+a)*256+b) (c:=c) Gf Gf Gf (by rw [h];rfl) hc.1 hc.2;have e3:=qfp (s:=s) (n:=n+3) (k:=3) (y:=((0*256+a)*256+b)*256+c) (c:=d) Gf Gf Gf (by rw [h];rfl) hd.1 hd.2;have e4:=qfp (s:=s) (n:=n+2) (k:=4) (y:=(((0*256+a)*256+b)*256+c)*256+d) (c:=e) Gf Gf Gf (by rw [h];rfl) he.1 he.2;have e5:=qfp (s:=s) (n:=n+1) (k:=5) (y:=((((0*256+a)*256+b)*256+c)*256+d)*256+e) (c:=f) Gf Gf Gf (by rw [h];rfl) hff.1 hff.2;unfold qot;rw [e0];have e1:qbn s (n+6) (0*256+a) ((0+1:Nat):Int)=_:=e1;rw [e1];have e2:qbn s (n+5) _ ((1+1:Nat):Int)=_:=e2;rw [e2];have e3:qbn s (n+4) _ ((2+1:Nat):Int)=_:=e3;rw [e3];have e4:qbn s (n+3) _ ((3+1:Nat):Int)=_:=e4;rw [e4];have e5:qbn s (n+2) _ ((4+1:Nat):Int)=_:=e5;rw [e5,qbn,qad (by rfl),qa3 Gf Gf];unfold q7m;rw [Int.zero_mul,D9]
theorem qh5 {fu:Nat}:qh4 fu=some (noF,1):=rfl
theorem q0b:∀ (n:Nat) (u:List Int) (z:List Int × List Int × List Int),qsm n u=some z→u.length=7*n+z.2.2.length
 | 0,u,z,h=>by simp [qsm] at h;rw [← h];simp
 | n+1,u,z,h=>by
  by_cases h7:u.length<7
  ·match u,h7 with
   | [],_=>simp [qsm] at h
   | [_],_=>simp [qsm] at h
   | [_,_],_=>simp [qsm] at h
   | [_,_,_],_=>simp [qsm] at h
   | [_,_,_,_],_=>simp [qsm] at h
   | [_,_,_,_,_],_=>simp [qsm] at h
   | [_,_,_,_,_,_],_=>simp [qsm] at h
   | _::_::_::_::_::_::_::_,h=>simp at h;omega
  ·match u,h7 with
   | [],h=>simp at h
   | [_],h=>simp at h
   | [_,_],h=>simp at h
   | [_,_,_],h=>simp at h
   | [_,_,_,_],h=>simp at h
   | [_,_,_,_,_],h=>simp at h
   | [_,_,_,_,_,_],h=>simp at h
   | k::a::b::c::d::e::f::t,_ =>
    rw [qsm] at h;cases hp:qsm n t with
    | none=>rw [hp] at h;cases h
    | some p =>
     rw [hp] at h;simp only [Option.map_some,Option.some.injEq] at h;have:=q0b n t p hp;rw [← h];simp only [Ah];omega
theorem q2k:∀ (n:Nat) (u:List Int),7*n≤u.length→∃ z,qsm n u=some z
 | 0,u,_=>⟨_,rfl⟩
 | n+1,u,h=>by
  match u,h with
  | [],h=>simp at h
  | [_],h=>simp at h;omega
  | [_,_],h=>simp at h;omega
  | [_,_,_],h=>simp at h;omega
  | [_,_,_,_],h=>simp at h;omega
  | [_,_,_,_,_],h=>simp at h;omega
  | [_,_,_,_,_,_],h=>simp at h;omega
  | k::a::b::c::d::e::f::t,h =>
   obtain ⟨z,hz⟩:=q2k n t (by simp at h;omega);exact ⟨_,by rw [qsm,hz];rfl⟩
section
variable {fu:Nat} {s:ByteArray}
theorem qwk {p j:Nat} {u:List Int} (hu:(byL s).drop p=u) {c:Int} (hc:u[j]? = some c):qkl s ((p+j:Nat):Int)=some c:=by
 rw [qnb,← hc,← hu,D3]
theorem qyp (hf:20≤fu) {p nd na:Nat} {u:List Int} (hp:p≤5000) (hnd:nd<256) (hna:na<256) (hu:(byL s).drop (p+(1+nd)+1)=u) (hul:u.length=7*na):∀ (q m j:Nat) (d:GFrame),j+m=na→m<q→d.at_.length=j→d.vals.length=j →
 ∀ ats vs,qsm m (u.drop (7*j))=some (ats,vs,[])→qbd fu s p nd na q d j=some (bif qaf { d with at_:=d.at_++ats,vals:=d.vals++vs }==0 then ({ d with at_:=d.at_++ats,vals:=d.vals++vs },0) else (noF,1))
 | 0,m,j,d,_,h,_,_,_,_,_=>absurd h Gf
 | q+1,0,j,d,hj,_,_,_,ats,vs,hz=>by
  rw [qsm] at hz;simp only [Option.some.injEq,Prod.mk.injEq] at hz;obtain ⟨rfl,rfl,_⟩:=hz;rw [qbd,qa3 (x:=(na:Int)) Gf Gf,qad (qab Gf),qaa];have e:({ d with at_:=d.at_++[],vals:=d.vals++[] }:GFrame)=d:=by simp
  rw [e];by_cases h:qaf d=0
  ·rw [h];rfl
  ·have e1:(qaf d != 0)=true:=by simp [h]
   have e2:(qaf d==0)=false:=by simp [h]
   rw [e1,e2];rfl
 | q+1,m+1,j,d,hj,hq,hda,hdv,ats,vs,hz=>by
  have hlen:(u.drop (7*j)).length=7*(m+1):=by rw [List.length_drop];omega
  obtain ⟨k,a,b,c,e,f,g,t,ht⟩:∃ k a b c e f g t,u.drop (7*j)=k::a::b::c::e::f::g::t:=by
   match u.drop (7*j),hlen with
   | [],h=>simp at h
   | [_],h=>simp at h;omega
   | [_,_],h=>simp at h;omega
   | [_,_,_],h=>simp at h;omega
   | [_,_,_,_],h=>simp at h;omega
   | [_,_,_,_,_],h=>simp at h;omega
   | [_,_,_,_,_,_],h=>simp at h;omega
   | k::a::b::c::e::f::g::t,_=>exact ⟨k,a,b,c,e,f,g,t,rfl⟩
  have hd2:u.drop (7*(j+1))=t:=by
   have:=congrArg (List.drop 7) ht;rw [Bm] at this;rw [show 7*(j+1)=7*j+7 from by omega,this];rfl
  rw [ht,qsm] at hz;cases hp2:qsm m t with
  | none=>rw [hp2] at hz;cases hz
  | some z =>
   rw [hp2] at hz;simp only [Ak,Option.some.injEq,Prod.mk.injEq] at hz;obtain ⟨rfl,rfl,hz3⟩:=hz;have hdrop:(byL s).drop (p+(1+nd)+1+7*j)=k::a::b::c::e::f::g::t:=by rw [← ht,← hu,Bm]
   have w0:Gr (nd:Int)=(nd:Int):=qa3 Gf Gf;have w1:Gr (1+(nd:Int))=((1+nd:Nat):Int):=by rw [qa3 Gf Gf];omega
   have w2:Gr ((p:Int)+((1+nd:Nat):Int))=((p+(1+nd):Nat):Int):=by rw [qa3 Gf Gf];omega
   have w3:Gr (((p+(1+nd):Nat):Int)+1)=((p+(1+nd)+1:Nat):Int):=by rw [qa3 Gf Gf];omega
   have w4:Gr (7*(j:Int))=((7*j:Nat):Int):=by rw [qa3 Gf Gf];omega
   have w5:Gr (((p+(1+nd)+1:Nat):Int)+((7*j:Nat):Int))=((p+(1+nd)+1+7*j:Nat):Int):=by rw [qa3 Gf Gf];omega
   have w6:Gr (((p+(1+nd):Nat):Int)+2)=((p+(1+nd)+2:Nat):Int):=by rw [qa3 Gf Gf];omega
   have w7:Gr (((p+(1+nd)+2:Nat):Int)+((7*j:Nat):Int))=((p+(1+nd)+2+7*j:Nat):Int):=by rw [qa3 Gf Gf];omega
   have w8:Gr ((j:Int)+1)=((j+1:Nat):Int):=by rw [qa3 Gf Gf];omega
   have hk:qkl s ((p+(1+nd)+1+7*j:Nat):Int)=some k:=qwk (p:=p+(1+nd)+1+7*j) (j:=0) hdrop rfl;have hkr:0≤k∧k<256:=qdr (s:=s) (B9 (by rw [hdrop];exact Aa));have hbl:=qg5 s;have hsz:p+(1+nd)+2+7*j≤s.size:=by
    have:=congrArg List.length hdrop;rw [A7,hbl] at this;simp at this;omega
   obtain ⟨s',hs1,hs2⟩:=qzs hsz;have hs3:byL s'=a::b::c::e::f::g::t:=by
    rw [hs2,show p+(1+nd)+2+7*j=p+(1+nd)+1+7*j+1 from by omega,← Bm,hdrop];rfl
   rw [qbd,qa3 (x:=(na:Int)) Gf Gf,qae (qac Gf),w0,w1,w2,w3,w4,w5,w6,w7,w8,hk,qaa,qa3 (x:=k) Gf Gf,
    qas (by have:Rep.bytes Int=8:=rfl;rw [this];simp;omega),qaa,qaa,hs1,qaa,qwj Gf hs3,qaa,qas (by have:Rep.bytes Int=8:=rfl;rw [this];simp;omega),qaa,qaa]
   have ih:=qyp hf hp hnd hna hu hul q m (j+1) { d with at_:=d.at_++[k],vals:=d.vals++[q7m a b c e f g] } Gf Gf (by simp;omega) (by simp;omega) z.1 z.2.1 (by rw [hd2,hp2,← hz3]);rw [ih];simp [As]
theorem qyq (hf:300≤fu) {p nd:Nat} {r:List Int} (hp:p≤4000) (hnd:nd<256) (hsz:s.size≤140737488351232) (hr:(byL s).drop p=(nd:Int)::r) (hrl:nd<r.length):∀ (q m j:Nat) (d:GFrame),j+m=nd→m<q→d.deps=r.take j→d.at_=[]→d.vals=[] →
 qbe fu s p nd q d j=some (zaj (q1r d.kind d.node d.id d.ops (r.take nd) (r.drop nd)))
 | 0,m,j,d,_,h,_,_,_=>absurd h Gf
 | q+1,0,j,d,hj,_,hdd,ha,hv=>by
  have hj:j=nd:=by omega
  subst hj;have hbl:=qg5 s;have hlen:=congrArg List.length hr;rw [List.length_drop,hbl,List.length_cons] at hlen;obtain ⟨na,u,hu⟩:∃ na u,r.drop j=na::u:=by
   rw [Ad hrl];exact ⟨_,_,rfl⟩
  have hul:=congrArg List.length hu;rw [A7,Ah] at hul;have hpos:qkl s (p:Int)=some (j:Int):=by
   have:=qwk (s:=s) (p:=p) (j:=0) hr rfl;rwa [Dl] at this
  have hdr:(byL s).drop (p+(1+j))=na::u:=by
   rw [← hu,← Bm,hr,show 1+j=j+1 from by omega,List.drop_succ_cons]
  have hna:qkl s ((p+(1+j):Nat):Int)=some na:=by
   have:=qwk (s:=s) (p:=p+(1+j)) (j:=0) hdr rfl;rwa [Dl] at this
  have hnar:0≤na∧na<256:=qdr (s:=s) (B9 (by rw [hdr];exact Aa));have hdr2:(byL s).drop (p+(1+j)+1)=u:=by rw [← Bm,hdr];rfl
  have w0:Gr (j:Int)=(j:Int):=qa3 Gf Gf;have w1:Gr (1+(j:Int))=((1+j:Nat):Int):=by rw [qa3 Gf Gf];omega
  have w2:Gr ((p:Int)+((1+j:Nat):Int))=((p+(1+j):Nat):Int):=by rw [qa3 Gf Gf];omega
  have w3:Gr (((p+(1+j):Nat):Int)+1)=((p+(1+j)+1:Nat):Int):=by rw [qa3 Gf Gf];omega
  have hnn:na=((na.toNat:Nat):Int):=by omega
  generalize na.toNat=nb at hnn;subst hnn;have w4:Gr (nb:Int)=(nb:Int):=qa3 Gf Gf;have w5:Gr (7*(nb:Int))=((7*nb:Nat):Int):=by rw [qa3 Gf Gf];omega
  have w6:Gr (((p+(1+j)+1:Nat):Int)+((7*nb:Nat):Int))=((p+(1+j)+1+7*nb:Nat):Int):=by rw [qa3 Gf Gf];omega
  rw [qbe,w0,qad (qab Gf),hpos,qaa,w0,w1,w2,hna,qaa,w3,w4,w5,w6,qaa,hu];have htn:((nb:Int)).toNat=nb:=rfl;by_cases h7:u.length=7*nb
  ·rw [qad (by simp;omega)];obtain ⟨z,hz⟩:=q2k nb u Gf;have hzl:=q0b nb u z hz;obtain ⟨z1,z2,z3⟩:=z;have hz3:z3=[]:=A0.1 (by simp at hzl;omega);subst hz3;have h3:=qyp (fu:=fu) (s:=s) Gf (p:=p) (nd:=j) (na:=nb) (u:=u) Gf Gf Gf hdr2 h7 fu nb 0 d Gf Gf (by rw [ha];rfl) (by rw [hv];rfl) z1 z2 (by simpa using hz);have h3:qbd fu s p j nb fu d 0=_:=h3;rw [h3,q1r,htn,hz,ha,hv,Av,Av,← hdd];rfl
  ·rw [qae (by simp;omega)];rw [qh5,qaa,qaa,q1r,htn];cases hz:qsm nb u with
   | none=>rfl
   | some z =>
    have hzl:=q0b nb u z hz;obtain ⟨z1,z2,z3⟩:=z;cases z3 with
    | nil=>simp at hzl;omega
    | cons _ _=>rfl
 | q+1,m+1,j,d,hj,hq,hdd,ha,hv=>by
  have hlt:j<r.length:=by omega
  have hc:qkl s ((p+1+j:Nat):Int)=some r[j]:=by
   have:=qwk (s:=s) (p:=p) (j:=j+1) hr (c:=r[j]) (by simp);rwa [show p+(j+1)=p+1+j from by omega] at this
  have hcr:0≤r[j]∧r[j]<256:=qdr (s:=s) (B9 (by rw [hr];exact X8 _ (A2 _)));have w0:Gr (nd:Int)=(nd:Int):=qa3 Gf Gf;have w1:Gr ((p:Int)+1)=((p+1:Nat):Int):=by rw [qa3 Gf Gf];omega
  have w2:Gr (((p+1:Nat):Int)+(j:Int))=((p+1+j:Nat):Int):=by rw [qa3 Gf Gf];omega
  have w3:Gr ((j:Int)+1)=((j+1:Nat):Int):=by rw [qa3 Gf Gf];omega
  have hdl:d.deps.length≤300:=by rw [hdd,Bw];omega
  rw [qbe,w0,qae (qac Gf),w1,w2,hc,qaa,qa3 (x:=r[j]) Gf Gf,qas (by have:Rep.bytes Int=8:=rfl;rw [this];simp;omega),qaa,qaa,w3];exact qyq hf hp hnd hsz hr hrl q m (j+1) { d with deps:=d.deps++[r[j]] } Gf Gf (by rw [hdd];exact (Dg hlt).symm) ha hv
theorem qyr (hf:300≤fu) (hsz:s.size≤140737488351232) {no:Nat} (hno:no<256) {d57:GFrame}:∀ (q m i:Nat) (d:GFrame),i+m=no→m<q→4+8*i≤s.size→d.ops.length=i→d.deps=[]→d.at_=[]→d.vals=[] →
 qbf fu s no q d d57 ((4+8*i:Nat):Int) i=some (zaj ((q5h m ((byL s).drop (4+8*i))).bind fun p=>q34 d.kind d.node d.id (d.ops++p.1) p.2))
 | 0,m,i,d,_,h,_,_,_,_,_=>absurd h Gf
 | q+1,0,i,d,hi,_,hs,ho,hdd,ha,hv=>by
  have hbl:=qg5 s;have w0:Gr (no:Int)=(no:Int):=qa3 Gf Gf;rw [qbf,w0,qad (qab Gf),q5h];simp only [Option.bind_some,List.append_nil];unfold qe2 qhg;generalize hp:4+8*i=p at hs ⊢;have hlen:((byL s).drop p).length=s.size-p:=by rw [List.length_drop,hbl]
  cases hr:(byL s).drop p with
  | nil =>
   rw [hr] at hlen;simp at hlen;rw [qae (qac Gf),qae rfl,qh5,qaa,qaa];rfl
  | cons nd r =>
   rw [hr,List.length_cons] at hlen;have hndr:0≤nd∧nd<256:=qdr (s:=s) (List.mem_of_mem_drop (by rw [hr];exact List.mem_cons_self));have hnn:nd=((nd.toNat:Nat):Int):=by omega
   generalize nd.toNat=nb at hnn;subst hnn;have hidx:qkl s (p:Int)=some (nb:Int):=by
    have:=qwk (s:=s) (p:=p) (j:=0) hr rfl;rwa [Dl] at this
   have w1:Gr ((p:Int)+1)=((p+1:Nat):Int):=by rw [qa3 Gf Gf];omega
   have w2:Gr (((p+1:Nat):Int)+Gr (nb:Int))=((p+1+nb:Nat):Int):=by rw [qa3 (x:=(nb:Int)) Gf Gf,qa3 Gf Gf];omega
   have htn:((nb:Int)).toNat=nb:=rfl;rw [qad (qab Gf),hidx,qaa,w1,w2,q34,htn];unfold q33;by_cases hle:nb<r.length
   ·rw [qad (qab Gf),qaa,if_pos Gf];have h2:=qyq (fu:=fu) (s:=s) hf (p:=p) (nd:=nb) (r:=r) Gf Gf hsz hr hle fu nb 0 d Gf Gf (by rw [hdd];rfl) ha hv;have h2:qbe fu s p nb fu d 0=_:=h2;rw [h2];rfl
   ·rw [qae (qac Gf),qh5,qaa,qaa];by_cases he:nb≤r.length
    ·rw [if_pos he];have:r.drop nb=[]:=Bz Gf;simp only [Dz];rw [this];rfl
    ·rw [if_neg he];rfl
 | q+1,m+1,i,d,hi,hq,hs,ho,hdd,ha,hv=>by
  have hbl:=qg5 s;have w0:Gr (no:Int)=(no:Int):=qa3 Gf Gf;have w8:Gr (((4+8*i:Nat):Int)+8)=((4+8*(i+1):Nat):Int):=by rw [qa3 Gf Gf];omega
  have wi:Gr ((i:Int)+1)=((i+1:Nat):Int):=by rw [qa3 Gf Gf];omega
  rw [qbf,w0,qae (qac Gf),w8];have hlen:((byL s).drop (4+8*i)).length=s.size-(4+8*i):=by rw [A7,hbl]
  by_cases h8:s.size<4+8*(i+1)
  ·rw [qae (qac Gf),qh5,qaa,qaa,qso Gf];rfl
  ·rw [qad (qab Gf)];obtain ⟨k,y,a,b,c,dd,e,f,u,hu⟩:=q5j (t:=(byL s).drop (4+8*i)) Gf;have w1:Gr (((4+8*i:Nat):Int)+1)=((4+8*i+1:Nat):Int):=by rw [qa3 Gf Gf];omega
   have w2:Gr (((4+8*i:Nat):Int)+2)=((4+8*i+2:Nat):Int):=by rw [qa3 Gf Gf];omega
   have hk:qkl s ((4+8*i:Nat):Int)=some k:=by
    have:=qwk (s:=s) (p:=4+8*i) (j:=0) hu rfl;rwa [Dl] at this
   have hy:qkl s ((4+8*i+1:Nat):Int)=some y:=qwk (s:=s) (p:=4+8*i) (j:=1) hu rfl;have hkr:0≤k∧k<256:=qdr (s:=s) (c:=k) (B9 (i:=4+8*i) (by rw [hu];exact Aa));have hyr:0≤y∧y<256:=qdr (s:=s) (c:=y) (B9 (i:=4+8*i) (by rw [hu];exact X8 _ Aa));obtain ⟨s',hs1,hs2⟩:=qzs (s:=s) (k:=4+8*i+2) Gf;have hs3:byL s'=a::b::c::dd::e::f::u:=by
    rw [hs2,← Bm,hu];rfl
   have hnext:(byL s).drop (4+8*(i+1))=u:=by
    rw [show 4+8*(i+1)=4+8*i+8 from by omega,← Bm,hu];rfl
   rw [hk,qaa,w1,hy,qaa,w2,hs1,qaa,qwj Gf hs3,qaa,qa3 (x:=k) Gf Gf,qa3 (x:=y) Gf Gf,qaa,qas (by have:Rep.bytes GOp=24:=rfl;rw [this];simp;omega),qaa,qaa,wi,hu,q5h];rw [qyr hf hsz hno q m (i+1) { d with ops:=d.ops++[⟨k,y,q7m a b c dd e f⟩] } Gf Gf Gf (by simp;omega) hdd ha hv,hnext];cases hp:q5h m u with
   | none=>rfl
   | some z=>simp [As]
theorem qnz (hf:300≤fu) (hs:s.size≤140737488351232):qfo fu s=some (qo0 (byL s)):=by
 have hbl:=qg5 s;unfold qfo;by_cases h6:s.size<6
 ·rw [qae (qac Gf),qh5,qaa,qaa];congr 1;unfold qo0;have hnone:∀ l:List Int,l.length<6→zaj (qvp l)=(noF,1):=by
   intro l hl
   match l,hl with
   | [],_=>rfl
   | [_],_=>rfl
   | [_,_],_=>rfl
   | [_,_,_],_=>rfl
   | kd::nd::id::no::t,hl =>
    rw [qvp];cases hn:no.toNat with
    | zero =>
     rw [q5h];simp only [Dz]
     match t,hl with
     | [],_=>rfl
     | [m],_ =>
      rw [q34];unfold q33;by_cases hm:m.toNat≤([]:List Int).length
      ·rw [if_pos hm];simp [q1r,zaj]
      ·rw [if_neg hm];rfl
     | _::_::_,hl=>simp at hl;omega
    | succ n =>
     rw [qso (by simp at hl;omega)];rfl
  exact (hnone (byL s) Gf).symm
 ·rw [qad (qab Gf)]
  match hl:byL s with
  | []=>rw [hl] at hbl;simp at hbl;omega
  | [_]=>rw [hl] at hbl;simp at hbl;omega
  | [_,_]=>rw [hl] at hbl;simp at hbl;omega
  | [_,_,_]=>rw [hl] at hbl;simp at hbl;omega
  | a::b::c::no::t =>
   have i0:qkl s 0=some a:=by have:=qnb s 0;rw [hl] at this;exact this
   have i1:qkl s 1=some b:=by have:=qnb s 1;rw [hl] at this;exact this
   have i2:qkl s 2=some c:=by have:=qnb s 2;rw [hl] at this;exact this
   have i3:qkl s 3=some no:=by have:=qnb s 3;rw [hl] at this;exact this
   have hr:∀ z∈byL s,0≤z∧z<256:=fun z hz=>qdr hz;rw [hl] at hr;have ha:=hr a (by simp);have hb:=hr b (by simp);have hc:=hr c (by simp);have hno:=hr no (by simp);have hnn:no=((no.toNat:Nat):Int):=by omega
   rw [i0,qaa,i1,qaa,i2,qaa,qa3 (x:=a) Gf Gf,qa3 (x:=b) Gf Gf,qa3 (x:=c) Gf Gf,qaa,qaa,i3,qaa];have h1:=qyr (fu:=fu) (s:=s) hf hs (no:=no.toNat) Gf (d57:=(Zr.zd:GFrame)) fu no.toNat 0 { kind:=a,node:=b,id:=c,ops:=Zr.zd,deps:=Zr.zd,at_:=Zr.zd,vals:=Zr.zd } Gf Gf Gf rfl rfl rfl rfl;rw [← hnn] at h1;have h1:qbf fu s no fu _ (Zr.zd:GFrame) 4 0=_:=h1;rw [h1,show 4+8*0=4 from rfl,hl];rfl
end
def qj8 (y21:Int) (rec22:GNode→GNode→Int→Option (GNode × Int)) (d31:GNode) (d33:GNode):Option (GNode × Int) := rec22 d31 d33 (Gr (y21+1))
def qh6 (b:GNode) (c:Int) (d:GNode→GNode→Int→Option (GNode × Int)) (e:GNode) (a:Int):Option (GNode × Int):=(bif a != 0 then (some ({ entries:=Zr.zd,order:=Zr.zd,values:=Zr.zd }:GNode)).bind fun f=>(some f).bind fun g=>some (g,a) else qj8 c d e b)
def qca (fu:Nat) (c:Int) (a:List ByteArray):Nat→GNode→GNode→Int→Option (GNode × Int)
 | 0,_,_,_=>none
 | n+1,d,f,b=>(bif decide (b<(a.length:Int)) then (idx a b).bind fun h=>(qfo fu h).bind fun e=>(some e.1).bind fun i=>(bif e.2==0 then (qiy fu d c i).bind fun g=>(some g.1).bind fun j=>qh6 f b (qca fu c a n) j g.2.2 else qh6 f b (qca fu c a n) d e.2) else (some d).bind fun k=>some (k,0))
def qn0 (fu:Nat) (x1:Int) (x2:List ByteArray) (d9:GNode):Option (GNode × Int) := qca fu x1 x2 fu (Zr.zd:GNode) d9 0
def qh7 (fu:Nat) (a:Int) (b:List ByteArray) (c:Bool):Option (GNode × Int):=(bif c then (some ({ entries:=Zr.zd,order:=Zr.zd,values:=Zr.zd }:GNode)).bind fun d=>(some d).bind fun e=>some (e,2) else qn0 fu a b (Zr.zd:GNode))
def qi0 (fu:Nat) (x1:Int) (x2:List ByteArray):Option (GNode × Int):=(bif decide (x1<0) then qh7 fu x1 x2 true else qh7 fu x1 x2 (decide (x1>5)))
theorem q2l {m:Value} {d:Int} {h:List ByteArray} {r:GNode × Int} (hA:Agree M w) (t:repL M m h) (a:qi0 fu d h=some r) :
    Calls Tryz.prog 25 #[Gi d,m] w (Gives M w (fun y u=>∃ n,u= .tuple #[Gj n,Gi r.2]∧rep y n r.1)):=by
 refine Zk Tryz.func25 45 fun T hT=>?_;have ai:T 0=Gi d:=hT 0;have bd:T 1=m:=hT 1;have b:Gm w M [] w:=Zs hA;rw [qi0] at a;refine Qy ?_;refine Ql (Zl Ut b ?_);intro e _ _ b;have ad:rep M (Zr.zc GNode) (Zr.zd:GNode):=Zr.zr;refine Qa (Qf (Gi 0) rfl)<|Qj ?_;refine Qp (fun c g=>∃ o aj d9,Gl w M o∧Gm w o [Gp e aj 37] g∧rep o aj d9∧c 0=Gi d∧c 1=m∧c 4=Gk e∧qn0 fu d h d9=some r) ?_ ?_;refine Qp (fun c g=>∃ z a0,Gl w M z∧Gm w z [Gp e (Zr.zc GNode) 37] g∧c 0=Gi d∧c 1=m∧c 4=Gk e∧c 16= .bool a0∧qh7 fu d h a0=some r) ?_ ?_;refine Q1<|Zj ai<|Qa (Zt rfl rfl)<|Qa (Qd (.bool (decide (d<0))) rfl) ?_;rcases ic a with ⟨be,a⟩ | ⟨be,a⟩<;>rw [be];refine Qw 3 rfl<|Qj ?_;exact ⟨M,true,(Qc _ _ _),b,ai,bd,rfl,rfl,a⟩;refine Qg rfl rfl (Qd _ ai)<|Qg rfl rfl (Y3 rfl rfl)<|Qa (Q7 (.bool (decide (d>5))) rfl rfl)<|Qj ?_;exact ⟨M,(decide (d>5)),(Qc _ _ _),b,ai,bd,rfl,rfl,a⟩;rintro _ _ ⟨z,a0,a1,b,b2,b3,a2,b5,a⟩;replace ad:=Zf a1 ad;rw [qh7] at a;refine Q6 a b5 (fun b6 a=>?_) fun b6 a=>?_;refine Qy ?_;obtain ⟨b7,b8,a⟩:=Qb a;obtain ⟨_,b9,bg⟩:∃ cs,qa1 (([(0,192),(192,1),(193,8)]:List (Nat × Nat))[·]?) (Zr.zc GNode) []=some cs∧rep z cs b7:=⟨_,Yd,Ye (x:=({ entries:=Zr.zd,order:=Zr.zd,values:=Zr.zd }:GNode)) (Zr.zr:rep z (Zr.zc GNode) (Zr.zd:GNode)) b8⟩;refine Qa (Z0 [] zb4 Vq b9) ?_;obtain ⟨_,ca,a⟩:=Qb a;refine Ql<|Z3 0 201 b rfl ad a2 rfl bg rfl rfl (Lf (rr ad) bg) ca fun dy dz bh d0 d1 b=>Qa (Qf (Gi 2) rfl)<|Qj ?_;cases a;exact Q2 (Uu (j:=0) rfl a2 rfl (V1 Vh bh) b rfl (Ze b a1 ⟨_,rfl,bh⟩));refine Qk<|Qe ?_;exact ⟨z,(Zr.zc GNode),(Zr.zd:GNode),a1,b,ad,b2,b3,a2,a⟩;rintro _ _ ⟨o,aj,d9,a3,b,cb,cc,cd,ce,a⟩;replace t:=Qo a3.1 t;rw [qn0] at a;refine Qy ?_;refine Ql (Zl Ut b ?_);intro aa _ _ b;have cf:rep o (Zr.zc GNode) (Zr.zd:GNode):=Zr.zr;refine Qj<|Qt<|Qy<|Zj cd ?_;obtain ⟨_,_,cg,_⟩:=Q0 t;refine Qa (Zo Y4 (Vz cg rfl))<|Qa (Qd (Gi 0) rfl)<|Qj<|Qs ?_;refine Zy (fun a4 c g=>∃ ab ae al af ag i,Gl w o ab∧Gm w ab [Gp aa ae 37,Gp e af 37] g∧rep ab ae al∧rep ab af ag∧c 0=Gi d∧c 4=Gk e∧c 6=Gk aa∧c 18=m∧c 19=Gi (h.length:Int)∧c 20=Gi i∧qca fu d h a4 al ag i=some r) fu ?_ ?_ ?_;exact ⟨o,(Zr.zc GNode),(Zr.zd:GNode),aj,d9,(0:Int),(Qc _ _ _),b,cf,cb,cc,ce,rfl,rfl,rfl,rfl,a⟩;rintro c g ⟨_,_,_,_,_,_,_,_,_,_,_,_,_,_,_,_,a⟩;rw [qca] at a;cases a;intro a4;rintro _ _ ⟨ab,ae,al,af,ag,i,am,b,k,l,a5,an,ah,a6,a7,ao,a⟩;replace t:=Qo am.1 t;rw [qca] at a;obtain ⟨bi,bj⟩:∃ f,f=qca fu d h a4:=⟨_,rfl⟩;rw [← bj] at a;refine Qy<|Qa (Zt ao a7)<|Qj<|Qt ?_;refine Q6 a rfl (fun ch a=>?_) fun ch a=>?_;refine Qk<|Qe ?_;refine Qp (fun c g=>∃ ac ap aq ar au,Gl w ab ac∧Gm w ac [Gp aa ap 37,Gp e ar 37] g∧rep ac ap aq∧rep ac ar au∧c 0=Gi d∧c 4=Gk e∧c 6=Gk aa∧c 18=m∧c 19=Gi (h.length:Int)∧c 20=Gi i∧qj8 i bi aq au=some r) ?_ ?_;refine Qs<|Qy ?_;obtain ⟨av,_,_,_,_,ci,cj,ck,cl,cm,a⟩:=Yc 1 t a;refine Qa (Yr zb5 a6 ci ao cj ck)<|Qa (Qh (.string av) ts9 rfl (b.bvM cl) cm.1)<|Qa (Qf (.string av) rfl)<|Qj<|Qy<|Qa (Qd (.string av) rfl) ?_;obtain ⟨p,cn,a⟩:=Qb a;refine Ql (Yi (vs:=[.string av]) (rv:=(fun y u=>∃ n,u= .tuple #[Gj n,Gi p.2]∧rep y n p.1)) cb26 (Zm rfl) b (qpq b.agree cn) ?_);intro _ a8 _ aw co b;obtain ⟨bk,cp,bl⟩:=co;subst cp;replace k:=Zf aw k;replace l:=Zf aw l;refine Qa (Qd (.tuple #[Gj bk,Gi p.2]) rfl)<|Qa (Q3 (v:= Gj bk) rfl rfl)<|Qa (Q3 (v:= Gi p.2) rfl rfl) ?_;refine Ql (Zl q7l b ?_);intro cq _ cr b;have bm:rep a8 (Zr.zc GFrame) (Zr.zd:GFrame):=Zr.zr;obtain ⟨_,ct,a⟩:=Qb a;refine Ql (Z7 0 7 b bm bl (Lf (rr bm) bl) ct ?_);intro bn _ cu _ _ b;refine Qa (Qf (Gi p.2) rfl)<|Qj ?_;refine Qp (fun c g=>∃ q ax ay az,Gl w a8 q∧Gm w q [Gp cq bn 82,Gp aa ax 37,Gp e af 37] g∧rep q ax ay∧c 0=Gi d∧c 4=Gk e∧c 6=Gk aa∧c 10=Gi az∧c 18=m∧c 19=Gi (h.length:Int)∧c 20=Gi i∧qh6 ag i bi ay az=some r) ?_ ?_;refine Qy<|Qa (Qd (Gi p.2) rfl)<|Qa (Ya rfl rfl)<|Qj ?_;refine Q6 a rfl (fun cv a=>?_) fun cv a=>?_;refine Q1 ?_;have bo:=(rr k);refine Qa (Za Vh ah (b.bvB 1 rfl) (X5 bo))<|Zj a5 ?_;have bp:=(rr cu);refine Qa (Za Jl rfl (b.bvB 0 rfl) (X5 bp)) ?_;obtain ⟨s,cw,a⟩:=Qb a;refine Ql (Yi (vs:=[Gj (sl ae (0) 201),Gi d,Gj (sl bn (0) 7)]) (rv:=(fun y u=>∃ n v1,u= .tuple #[Gj n,v1,Gi s.2.2]∧rep y n s.1∧repL y v1 s.2.1)) ziy (Js rfl rfl rfl) b (qnk b.agree bo bp cw) ?_);intro _ cx _ br cy b;obtain ⟨bs,bu,c1,bv,_⟩:=cy;subst c1;replace k:=Zf br k;refine Qa (Qd (.tuple #[Gj bs,bu,Gi s.2.2]) rfl)<|Qa (Q3 (v:= Gj bs) rfl rfl)<|Qa (Q3 (v:=bu) rfl rfl)<|Qa (Q3 (v:= Gi s.2.2) rfl rfl) ?_;obtain ⟨c2,c3,a⟩:=Qb a;refine Ql<|Z3 1 201 b rfl k ah rfl bv rfl rfl (Lf (rr k) bv) c3 fun c4 ep c5 er es b=>Qa (Qf (Gi s.2.2) rfl)<|Qj ?_;exact ⟨cx,c4,c2,s.2.2,br,b,c5,a5,an,ah,rfl,a6,a7,ao,a⟩;refine Qk<|Qe ?_;exact ⟨a8,ae,al,p.2,(Qc _ _ _),b,k,a5,an,ah,rfl,a6,a7,ao,a⟩;rintro _ _ ⟨q,ax,ay,az,a9,b,c6,c7,ba,c8,bw,c9,da,db,a⟩;replace l:=Zf a9 l;rw [qh6] at a;refine Qy<|Zj bw<|Qa (Ym rfl rfl)<|Qj ?_;refine Q6 a rfl (fun dc a=>?_) fun dc a=>?_;refine Qy ?_;obtain ⟨dd,de,a⟩:=Qb a;obtain ⟨_,df,bx⟩:∃ cs,qa1 (([(0,192),(192,1),(193,8)]:List (Nat × Nat))[·]?) (Zr.zc GNode) []=some cs∧rep q cs dd:=⟨_,Yd,Ye (x:=({ entries:=Zr.zd,order:=Zr.zd,values:=Zr.zd }:GNode)) (Zr.zr:rep q (Zr.zc GNode) (Zr.zd:GNode)) de⟩;refine Qa (Z0 [] zb4 Vq df)<|Zj bw ?_;obtain ⟨_,dg,a⟩:=Qb a;refine Ql<|Z3 2 201 b rfl l ba rfl bx rfl rfl (Lf (rr l) bx) dg fun ex ey bz ez e0 b=>Qa (Qf (Gi az) rfl)<|Qj ?_;cases a;exact Q2 (Uu (j:=2) rfl ba rfl (V1 Vh bz) b rfl (Ze b (a3.trans (am.trans (aw.trans a9))) ⟨_,rfl,bz⟩));refine Qk<|Q8<|Qe ?_;exact ⟨q,ax,ay,af,ag,(aw.trans a9),(Y0 b cr),c6,l,c7,ba,c8,c9,da,db,a⟩;rintro _ _ ⟨ac,ap,aq,ar,au,dh,b,di,dj,dk,dl,dm,dn,dp,dq,a⟩;rw [qj8] at a;refine Q1<|Qa (Zu dq rfl)<|Qa (Qd (Gi (Gr (i+1))) rfl)<|Qj ?_;exact ⟨ac,ap,aq,ar,au,(Gr (i+1)),(am.trans dh),b,di,dj,dk,dl,dm,dn,dp,rfl,(by rw [← bj];exact a)⟩;refine Zp<|Qr<|Qr<|Zq<|Qe<|Qy ?_;have bb:=(rr k);refine Qa (Za Vh ah (b.bvB 0 rfl) (X5 bb)) ?_;obtain ⟨_,dr,a⟩:=Qb a;refine Ql<|Z3 1 201 b rfl l an rfl bb rfl rfl (Lf (rr l) bb) dr fun e4 e5 b0 e6 e7 b=>Qa (Qf (Gi 0) rfl)<|Qj ?_;cases a;exact Q2 (Uu (j:=1) rfl an rfl (V1 Vh b0) b rfl (Ze b (a3.trans am) ⟨_,rfl,b0⟩))
noncomputable def qgb (who:Int):List ByteArray→GNode→GNode × Int
 | [],s=>(s,0)
 | x::t,s=>bif (qo0 (byL x)).2 != 0 then (zeroN,(qo0 (byL x)).2) else bif (qcs s who (qo0 (byL x)).1).2.2 != 0 then (zeroN,(qcs s who (qo0 (byL x)).1).2.2) else qgb who t (qcs s who (qo0 (byL x)).1).1
theorem qtw {who:Int}:∀ (l:List ByteArray) {s:GNode},GoodN s→GoodN (qgb who l s).1
 | [],_,h=>h
 | x::t,s,h=>by
  unfold qgb;cases h1:((qo0 (byL x)).2 != 0)
  ·rw [cond_false];cases h2:((qcs s who (qo0 (byL x)).1).2.2 != 0)
   ·rw [cond_false];exact qtw t (qiz (by simpa using h2))
   ·exact qh3
  ·exact qh3
theorem qmk {fu:Nat} (hfu:300≤fu) {who:Int} {l:List ByteArray} (hl:l.length≤17592186043904) (hs:∀ x∈l,x.size≤140737488351232) (z:GNode):∀ (n m k:Nat) (s:GNode),l.length=k+m→m<n→GoodN s→qb7 fu who l n s z k=some (qgb who (l.drop k) s)
 | 0,m,k,_,_,h,_=>absurd h Gf
 | n+1,0,k,s,hk,_,_=>by
  rw [qb7,qad (qab Gf),qaa,List.drop_of_length_le Gf];rfl
 | n+1,m+1,k,s,hk,hn,hg=>by
  have hlt:k<l.length:=by omega
  have hx:=hs _ (A2 hlt);have ih:=fun s hg=>qmk hfu hl hs (who:=who) z n m (k+1) s Gf Gf hg;rw [qb7,qae (qac Gf),qap,X7 hlt,qaa,qx9 Gf hx,qaa,qaa,Ad hlt];generalize l[k]=x;rw [qgb,wrs k Gf];cases h1:((qo0 (byL x)).2 != 0)
  ·rw [cond_false,cond_false,qtv hg.sizes Gf Gf,qaa,qaa];cases h2:((qcs s who (qo0 (byL x)).1).2.2 != 0)
   ·rw [cond_false,cond_false];exact ih _ (qiz (by simpa using h2))
   ·rfl
  ·rfl
theorem qxe {fu:Nat} {who:Int} {l:List ByteArray} (hfu:l.length+300≤fu) (hl:l.length≤17592186043904) (hs:∀ x∈l,x.size≤140737488351232):qg1 fu who l=some (bif decide (0≤who∧who<6) then qgb who l zeroN else (zeroN,2)):=by
 unfold qg1;rw [qyn,qaa];cases decide (0≤who∧who<6)
 ·rfl
 ·rw [qad (c := !true) rfl,cond_true];exact qmk Gf hl hs _ fu l.length 0 zeroN Gf Gf qh3
theorem qn1 {fu:Nat} (hfu:300≤fu) {who:Int} {l:List ByteArray} (hl:l.length≤17592186043904) (hs:∀ x∈l,x.size≤140737488351232):∀ (n m k:Nat) (s z:GNode),l.length=k+m→m<n→GoodN s→qca fu who l n s z k=some (qgb who (l.drop k) s)
 | 0,m,k,_,_,_,h,_=>absurd h Gf
 | n+1,0,k,s,z,hk,_,_=>by
  rw [qca,qad (qab Gf),qaa,List.drop_of_length_le Gf];rfl
 | n+1,m+1,k,s,z,hk,hn,hg=>by
  have hlt:k<l.length:=by omega
  have hx:=hs _ (A2 hlt);have ih:=fun s z hg=>qn1 hfu hl hs (who:=who) n m (k+1) s z Gf Gf hg;rw [qca,qae (qac Gf),qap,X7 hlt,qaa,qnz Gf hx,qaa,qaa,Ad hlt];generalize l[k]=x;unfold qh6 qj8;rw [qgb,wrs k Gf];have hne:((qo0 (byL x)).2 != 0) = !((qo0 (byL x)).2==0):=rfl;rw [hne];cases h1:((qo0 (byL x)).2==0)
  ·rfl
  ·rw [cond_true,Aj,cond_false,qrx hg.sizes Gf Gf,qaa,qaa];cases h2:((qcs s who (qo0 (byL x)).1).2.2 != 0)
   ·rw [cond_false,cond_false];exact ih _ _ (qiz (by simpa using h2))
   ·rfl
theorem q0c {fu:Nat} {who:Int} {l:List ByteArray} (hfu:l.length+300≤fu) (hl:l.length≤17592186043904) (hs:∀ x∈l,x.size≤140737488351232):qi0 fu who l=some (bif decide (0≤who∧who<6) then qgb who l zeroN else (zeroN,2)):=by
 unfold qi0 qh7;by_cases h0:who<0
 ·rw [qae (qac h0),qab (show ¬ (0≤who∧who<6) by omega)];rfl
 ·rw [qad (qab h0)];by_cases h5:who>5
  ·rw [qac h5,qab (show ¬ (0≤who∧who<6) by omega)];rfl
  ·rw [qab h5,qac (show 0≤who∧who<6 by omega),cond_false,cond_true];exact qn1 Gf hl hs fu l.length 0 zeroN zeroN Gf Gf qh3
theorem q9y {f:GFrame} (hz:qaf f=0):(q1q f).2=0∧qo0 (byL (q1q f).1)=(f,0)∧(q1q f).1.size≤100:=by
 have hf:=q5g hz;obtain ⟨hb,hl⟩:=q9x hf;have hby:=zd4 hb;have hsz:=qg5 (strOfNums (q32 f));rw [hby] at hsz;have hpar:=q9w hf [];rw [Ej] at hpar;unfold q1q;rw [if_pos hz];refine ⟨rfl,?_,by show (strOfNums (q32 f)).size≤100;omega⟩;show qo0 (byL (strOfNums (q32 f)))=_;rw [hby];unfold qo0;rw [hpar];show (bif qaf f==0 then (f,0) else (noF,(1:Int)))=_;rw [hz];rfl
end Go.Proofs.YtaimhfbbenbdaaaGreat
