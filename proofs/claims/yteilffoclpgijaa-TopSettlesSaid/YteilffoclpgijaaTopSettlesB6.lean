/- What the proof of TopSettles rests on, part 6: rules of walks, what functions compute, and plain laws of it. -/
import Derived.Test.YteilffoclpgijaaTopSettlesB5
import Derived.ProofKit
import Derived.OpenShut
import Derived.ShutString
import Derived.ChangeOld
import Derived.SizedLaws
import Derived.Deep.Slices
namespace Go.Proofs.Yteilffoclpgijaa
inductive Path (E:Nat→Nat→Prop):Nat→Nat→Prop where
 | refl (a:Nat):Path E a a
 | tail {a b c:Nat}:Path E a b→E b c→Path E a c
section
variable {E:Nat→Nat→Prop}
theorem Path.trans {a b c:Nat} (h:Path E a b) (k:Path E b c):Path E a c:=by
 induction k with
 | refl=>exact h
 | tail _ e ih=>exact .tail ih e
theorem Path.one {a b:Nat} (h:E a b):Path E a b := .tail (.refl a) h
theorem Path.head {a b c:Nat} (h:E a b) (k:Path E b c):Path E a c:=(Path.one h).trans k
theorem Path.closed {S:Nat→Prop} (hS : ∀ a b,S a→E a b→S b) {a b:Nat} (h:Path E a b) (ha:S a):S b:=by
 induction h with
 | refl=>exact ha
 | tail _ e ih=>exact hS _ _ ih e
structure Srch where
 mark:Nat→Nat
 low:Nat→Nat
 ring:Nat→Nat
 stack:List Nat
 next:Nat
def qj9 {α : Type} (f:Nat → α) (i:Nat) (x : α):Nat → α := fun k=>if k=i then x else f k
theorem qdl {α : Type} (f:Nat → α) (i:Nat) (x : α):qj9 f i x i=x:=by simp [qj9]
theorem qcz {α : Type} (f:Nat → α) {i k:Nat} (x : α) (h:k≠i):qj9 f i x k=f k:=by simp [qj9,h]
def qsf (E:Nat→Nat→Prop) (v r:Nat):Prop:=Path E v r∧Path E r v ∧ ∀ w,Path E v w→Path E w v→r≤w
def wh (f:Nat→Nat):Nat:=(List.range 32).countP (fun i=>f i==0)
theorem qpf {p q:Nat→Bool} {n:Nat} (hp:p n=true) (hq:q n=false) (ho : ∀ k,k≠n→p k=q k) : ∀ (l:List Nat),l.Nodup→n∈l→l.countP p=l.countP q+1:=by
 have hsame : ∀ (l:List Nat),n∉l→l.countP p=l.countP q:=by
  intro l
  induction l with
  | nil=>intro _;rfl
  | cons a t ih =>
   intro hn
   simp only [List.mem_cons,not_or] at hn
   rw [List.countP_cons,List.countP_cons,ih hn.2,ho a (fun e=>hn.1 e.symm)]
 intro l
 induction l with
 | nil=>intro _ h;cases h
 | cons a t ih =>
  intro hnd hm
  rw [List.nodup_cons] at hnd
  rw [List.countP_cons,List.countP_cons]
  by_cases e:a=n
  ·subst e
   rw [hsame t hnd.1,hp,hq]
   simp
  ·have hmt:n∈t:=by
    rcases List.mem_cons.1 hm with h | h
    ·exact absurd h.symm e
    ·exact h
   rw [ih hnd.2 hmt,ho a e]
   omega
theorem qpg {p q:Nat→Bool} (h : ∀ k,p k=true→q k=true) (l:List Nat):l.countP p≤l.countP q:=by
 induction l with
 | nil=>exact Nat.le_refl _
 | cons a t ih =>
  rw [List.countP_cons,List.countP_cons]
  cases hp:p a with
  | false=>simp;omega
  | true=>rw [h a hp];simp;omega
theorem qsg {f:Nat→Nat} {n x:Nat} (hn:n<32) (h0:f n=0) (hx:0<x):wh f=wh (qj9 f n x)+1:=by
 unfold wh
 refine qpf (n:=n) (by simp [h0]) ?_ (fun k hk=>by rw [qcz _ _ hk]) _ List.nodup_range (List.mem_range.2 hn)
 rw [qdl]
 simp
 omega
theorem q6q {f f':Nat→Nat} (h : ∀ v,0<f v→0<f' v):wh f'≤wh f:=by
 unfold wh
 refine qpg (fun k hk => ?_) _
 have hk':f' k=0:=by simpa using hk
 have:f k=0:=by
  rcases Nat.eq_zero_or_pos (f k) with h0 | h0
  ·exact h0
  ·have:=h k h0;omega
 simp [this]
structure Inv (E:Nat→Nat→Prop) (s:Srch) (G:List Nat):Prop where
 lt : ∀ v,0<s.mark v→v<32
 le : ∀ v,s.mark v≤s.next
 inj : ∀ u v,s.mark u=s.mark v→0<s.mark u→u=v
 cnt:s.next+wh s.mark≤32
 sorted:s.stack.Pairwise (fun a b=>s.mark a<s.mark b)
 pos : ∀ v∈s.stack,0<s.mark v
 gray : ∀ g∈G,g∈s.stack
 black : ∀ v w,0<s.mark v→v∉G→E v w→0<s.mark w
 done : ∀ v w,0<s.mark v→v∉s.stack→E v w→w∉s.stack
 ring : ∀ v,0<s.mark v→v∉s.stack→qsf E v (s.ring v)
 reach : ∀ x∈G,∀ y∈s.stack,s.mark x≤s.mark y→Path E x y
 back : ∀ y∈s.stack,∃ x∈G,s.mark x≤s.mark y∧Path E y x
structure Ext (E:Nat→Nat→Prop) (s s':Srch) (n:Nat):Prop where
 mark_old : ∀ v,0<s.mark v→s'.mark v=s.mark v
 low_old : ∀ v,0<s.mark v→s'.low v=s.low v
 fresh : ∀ v,s.mark v=0→0<s'.mark v→s.next<s'.mark v∧Path E n v
 next:s.next≤s'.next
structure Post (E:Nat→Nat→Prop) (s s':Srch) (n:Nat) (G:List Nat):Prop where
 inv:Inv E s' G
 ext:Ext E s s' n
 mine:0<s'.mark n
 low_le:s'.low n≤s'.mark n
 low_or:s'.low n=s'.mark n ∨ ∃ z∈s.stack,s'.mark z=s'.low n∧Path E n z
 stack : ∃ new,s'.stack=s.stack++new ∧ ∀ y∈new,∀ z∈s.stack,E y z→s'.low n≤s'.mark z
structure LI (E:Nat→Nat→Prop) (s:Srch) (G:List Nat) (n:Nat) (t:Srch) (ds:Nat→Prop):Prop where
 was:Inv E s G
 white:s.mark n=0
 inv:Inv E t (n::G)
 ext:Ext E s t n
 nmark:t.mark n=s.next+1
 low_le:t.low n≤t.mark n
 low_or:t.low n=t.mark n ∨ ∃ z∈s.stack,t.mark z=t.low n∧Path E n z
 stack : ∃ new,t.stack=s.stack++n::new ∧ ∀ y∈new,∀ z∈s.stack,E y z→t.low n≤t.mark z
 proc : ∀ d,ds d→0<t.mark d∧(d∈s.stack→t.low n≤t.mark d)
def qui (s:Srch) (n:Nat):Srch:={ mark:=qj9 s.mark n (s.next+1),low:=qj9 s.low n (s.next+1),ring:=s.ring,stack:=s.stack++[n],next:=s.next+1 }
theorem LI.start {s:Srch} {G:List Nat} {n:Nat} (h:Inv E s G) (hn:n<32) (h0:s.mark n=0) (hG : ∀ g∈G,Path E g n):LI E s G n (qui s n) (fun _=>False):=by
 have hns:n∉s.stack:=fun hm=>by have:=h.pos n hm;omega
 have hmk : ∀ v,v≠n→(qui s n).mark v=s.mark v:=fun v hv=>qcz _ _ hv
 have hmn:(qui s n).mark n=s.next+1:=qdl _ _ _
 have hne : ∀ v,0<s.mark v→v≠n:=fun v hv e=>by subst e;omega
 have hst:(qui s n).stack=s.stack++[n]:=rfl
 refine ⟨h,h0,⟨fun v hv => ?_,fun v => ?_,fun u v huv hu => ?_,?_,?_,fun v hv => ?_,fun g hg => ?_,fun v w hv hg he => ?_,fun v w hv hs he => ?_,fun v hv hs => ?_,fun x hx y hy hxy => ?_,fun y hy => ?_⟩,⟨fun v hv=>hmk v (hne v hv),fun v hv=>qcz _ _ (hne v hv),fun v hv hv' => ?_,Nat.le_succ _⟩,hmn,?_,.inl ?_,⟨[],rfl,by simp⟩,fun d hd=>hd.elim⟩
 ·by_cases e:v=n
  ·subst e;exact hn
  ·rw [hmk v e] at hv;exact h.lt v hv
 ·show _≤s.next+1
  by_cases e:v=n
  ·subst e;rw [hmn];exact Nat.le_refl _
  ·rw [hmk v e];have:=h.le v;omega
 ·by_cases e1:u=n
  ·by_cases e2:v=n
   ·rw [e1,e2]
   ·subst e1;rw [hmn,hmk v e2] at huv;have:=h.le v;omega
  ·by_cases e2:v=n
   ·subst e2;rw [hmn,hmk u e1] at huv;have:=h.le u;omega
   ·rw [hmk u e1,hmk v e2] at huv;rw [hmk u e1] at hu;exact h.inj u v huv hu
 ·have:=qsg (x:=s.next+1) hn h0 (by omega)
  have hc:=h.cnt
  show s.next+1+wh (qj9 s.mark n (s.next+1))≤32
  omega
 ·rw [hst,List.pairwise_append]
  refine ⟨?_,List.pairwise_singleton _ _,fun a ha b hb => ?_⟩
  ·refine List.Pairwise.imp_of_mem (fun {a b} ha hb hab => ?_) h.sorted
   rw [hmk a (fun e=>hns (e ▸ ha)),hmk b (fun e=>hns (e ▸ hb))]
   exact hab
  ·rw [List.mem_singleton] at hb
   subst hb
   rw [hmn,hmk a (fun e=>hns (e ▸ ha))]
   have:=h.le a;omega
 ·rw [hst,List.mem_append,List.mem_singleton] at hv
  rcases hv with hv | rfl
  ·have:=h.pos v hv
   rw [hmk v (hne v this)];exact this
  ·rw [hmn];omega
 ·rw [hst,List.mem_append,List.mem_singleton]
  rcases List.mem_cons.1 hg with rfl | hg
  ·exact .inr rfl
  ·exact .inl (h.gray g hg)
 ·simp only [List.mem_cons,not_or] at hg
  rw [hmk v hg.1] at hv
  have:=h.black v w hv hg.2 he
  rw [hmk w (hne w this)];exact this
 ·rw [hst,List.mem_append,List.mem_singleton,not_or] at hs
  rw [hmk v hs.2] at hv
  rw [hst,List.mem_append,List.mem_singleton,not_or]
  refine ⟨h.done v w hv hs.1 he,fun e => ?_⟩
  subst e
  have hvG:v∉G:=fun hg=>hs.1 (h.gray v hg)
  have:=h.black v w hv hvG he
  omega
 ·rw [hst,List.mem_append,List.mem_singleton,not_or] at hs
  rw [hmk v hs.2] at hv
  exact h.ring v hv hs.1
 ·rw [hst,List.mem_append,List.mem_singleton] at hy
  rcases List.mem_cons.1 hx with rfl | hx2
  ·rcases hy with hy | rfl
   ·have hp:=h.pos y hy
    rw [hmn,hmk y (hne y hp)] at hxy
    have:=h.le y;omega
   ·exact .refl _
  ·rcases hy with hy | rfl
   ·have hp:=h.pos y hy
    have hpx:=h.pos x (h.gray x hx2)
    rw [hmk x (hne x hpx),hmk y (hne y hp)] at hxy
    exact h.reach x hx2 y hy hxy
   ·exact hG x hx2
 ·rw [hst,List.mem_append,List.mem_singleton] at hy
  rcases hy with hy | rfl
  ·obtain ⟨x,hx,hxy,hp⟩:=h.back y hy
   have hpx:=h.pos x (h.gray x hx)
   refine ⟨x,List.mem_cons_of_mem _ hx,?_,hp⟩
   rw [hmk x (hne x hpx),hmk y (hne y (h.pos y hy))]
   exact hxy
  ·exact ⟨y,List.mem_cons_self,Nat.le_refl _,.refl _⟩
 ·by_cases e:v=n
  ·subst e;rw [hmn];exact ⟨by omega,.refl _⟩
  ·rw [hmk v e] at hv';omega
 ·rw [hmn];show qj9 s.low n (s.next+1) n≤_;rw [qdl];exact Nat.le_refl _
 ·rw [hmn];exact qdl _ _ _
theorem Inv.low {s:Srch} {G:List Nat} (h:Inv E s G) (l:Nat→Nat):Inv E { s with low:=l } G :=
 ⟨h.lt,h.le,h.inj,h.cnt,h.sorted,h.pos,h.gray,h.black,h.done,h.ring,h.reach,h.back⟩
section
variable {s t:Srch} {G:List Nat} {n:Nat} {ds:Nat→Prop}
theorem LI.old (h:LI E s G n t ds) {z:Nat} (hz:z∈s.stack):0<s.mark z∧t.mark z=s.mark z∧t.mark z<t.mark n:=by
 have h1:=h.was.pos z hz
 have h2:=h.ext.mark_old z h1
 have h3:=h.was.le z
 refine ⟨h1,h2,?_⟩
 rw [h2,h.nmark]
 omega
theorem LI.new (h:LI E s G n t ds) {new:List Nat} (hst:t.stack=s.stack++n::new) {y:Nat} (hy:y∈n::new):t.mark n≤t.mark y:=by
 have h1:=h.inv.sorted
 rw [hst,List.pairwise_append] at h1
 rcases List.mem_cons.1 hy with rfl | hy
 ·exact Nat.le_refl _
 ·exact Nat.le_of_lt ((List.pairwise_cons.1 h1.2.1).1 y hy)
theorem LI.visit {t':Srch} {d:Nat} (h:LI E s G n t ds) (hd0:t.mark d=0) (he:E n d) (hp:Post E t t' d (n::G)) :
  LI E s G n { t' with low:=qj9 t'.low n (min (t'.low n) (t'.low d)) } (fun x=>ds x∨x=d):=by
 have hn0:0<t.mark n:=by rw [h.nmark];omega
 have hmn:t'.mark n=t.mark n:=hp.ext.mark_old n hn0
 have hln:t'.low n=t.low n:=hp.ext.low_old n hn0
 have hmd:=hp.ext.fresh d hd0 hp.mine
 have hnn:t.mark n≤t.next:=h.inv.le n
 obtain ⟨new,hst,hnew⟩:=h.stack
 obtain ⟨newd,hst',hnew'⟩:=hp.stack
 have hlow2:(qj9 t'.low n (min (t'.low n) (t'.low d))) n=min (t.low n) (t'.low d):=by rw [qdl,hln]
 refine ⟨h.was,h.white,hp.inv.low _,⟨fun v hv => ?_,fun v hv => ?_,fun v hv hv' => ?_,Nat.le_trans h.ext.next hp.ext.next⟩,by rw [← h.nmark];exact hmn,?_,?_,⟨new++newd,?_,fun y hy z hz hyz => ?_⟩,fun x hx => ?_⟩
 ·have h1:=h.ext.mark_old v hv
  rw [hp.ext.mark_old v (by omega)];exact h1
 ·have h1:=h.ext.mark_old v hv
  have hvn:v≠n:=fun e=>by subst e;rw [h.white] at hv;omega
  show qj9 t'.low n _ v=_
  rw [qcz _ _ hvn,hp.ext.low_old v (by omega)]
  exact h.ext.low_old v hv
 ·rcases Nat.eq_zero_or_pos (t.mark v) with h0 | h0
  ·have h1:=hp.ext.fresh v h0 hv'
   have h2:=h.ext.next
   exact ⟨by show s.next<t'.mark v;omega,Path.head he h1.2⟩
  ·have h1:=hp.ext.mark_old v h0
   have h2:=h.ext.fresh v hv h0
   exact ⟨by show s.next<t'.mark v;rw [h1];exact h2.1,h2.2⟩
 ·show qj9 t'.low n _ n≤t'.mark n
  rw [hlow2,hmn]
  exact Nat.le_trans (Nat.min_le_left _ _) h.low_le
 ·show qj9 t'.low n _ n=t'.mark n ∨ ∃ z∈s.stack,t'.mark z=qj9 t'.low n _ n∧Path E n z
  rw [hlow2,hmn]
  by_cases hle:t.low n≤t'.low d
  ·rw [Nat.min_eq_left hle]
   rcases h.low_or with h1 | ⟨z,hz,h1,h2⟩
   ·exact .inl h1
   ·have h3:=h.old hz
    exact .inr ⟨z,hz,by rw [hp.ext.mark_old z (by omega)];exact h1,h2⟩
  ·rw [Nat.min_eq_right (by omega)]
   have hll:=h.low_le
   rcases hp.low_or with h1 | ⟨z,hz,h1,h2⟩
   ·omega
   ·refine .inr ⟨z,?_,h1,Path.head he h2⟩
    have hz':=hz
    rw [hst] at hz'
    rcases List.mem_append.1 hz' with h3 | h3
    ·exact h3
    ·have h4:=h.new hst h3
     have h5:=hp.ext.mark_old z (h.inv.pos z hz)
     omega
 ·show t'.stack=_
  rw [hst',hst]
  simp
 ·show qj9 t'.low n _ n≤t'.mark z
  rw [hlow2]
  have h3:=h.old hz
  have h4:=hp.ext.mark_old z (by omega)
  rcases List.mem_append.1 hy with hy | hy
  ·have:=hnew y hy z hz hyz
   rw [h4]
   exact Nat.le_trans (Nat.min_le_left _ _) this
  ·have:=hnew' y hy z (by rw [hst];exact List.mem_append_left _ hz) hyz
   exact Nat.le_trans (Nat.min_le_right _ _) this
 ·show 0<t'.mark x∧(x∈s.stack→qj9 t'.low n _ n≤t'.mark x)
  rw [hlow2]
  rcases hx with hx | rfl
  ·have h1:=h.proc x hx
   have h2:=hp.ext.mark_old x h1.1
   rw [h2]
   exact ⟨h1.1,fun hs=>Nat.le_trans (Nat.min_le_left _ _) (h1.2 hs)⟩
  ·exact ⟨hp.mine,fun hs=>by have:=h.old hs;omega⟩
theorem LI.on {d:Nat} (h:LI E s G n t ds) (hd:d∈t.stack) (he:E n d) :
  LI E s G n { t with low:=qj9 t.low n (min (t.low n) (t.mark d)) } (fun x=>ds x∨x=d):=by
 obtain ⟨new,hst,hnew⟩:=h.stack
 have hlow2:(qj9 t.low n (min (t.low n) (t.mark d))) n=min (t.low n) (t.mark d):=qdl _ _ _
 refine ⟨h.was,h.white,h.inv.low _,⟨h.ext.mark_old,fun v hv => ?_,h.ext.fresh,h.ext.next⟩,h.nmark,?_,?_,⟨new,hst,fun y hy z hz hyz => ?_⟩,fun x hx => ?_⟩
 ·have hvn:v≠n:=fun e=>by subst e;rw [h.white] at hv;omega
  show qj9 t.low n _ v=_
  rw [qcz _ _ hvn]
  exact h.ext.low_old v hv
 ·show qj9 t.low n _ n≤t.mark n
  rw [hlow2]
  exact Nat.le_trans (Nat.min_le_left _ _) h.low_le
 ·show qj9 t.low n _ n=t.mark n ∨ ∃ z∈s.stack,t.mark z=qj9 t.low n _ n∧Path E n z
  rw [hlow2]
  by_cases hle:t.low n≤t.mark d
  ·rw [Nat.min_eq_left hle];exact h.low_or
  ·rw [Nat.min_eq_right (by omega)]
   have hll:=h.low_le
   refine .inr ⟨d,?_,rfl,Path.one he⟩
   have hd':=hd
   rw [hst] at hd'
   rcases List.mem_append.1 hd' with h3 | h3
   ·exact h3
   ·have h4:=h.new hst h3
    omega
 ·show qj9 t.low n _ n≤t.mark z
  rw [hlow2]
  exact Nat.le_trans (Nat.min_le_left _ _) (hnew y hy z hz hyz)
 ·show 0<t.mark x∧(x∈s.stack→qj9 t.low n _ n≤t.mark x)
  rw [hlow2]
  rcases hx with hx | rfl
  ·have h1:=h.proc x hx
   exact ⟨h1.1,fun hs=>Nat.le_trans (Nat.min_le_left _ _) (h1.2 hs)⟩
  ·exact ⟨h.inv.pos x hd,fun _=>Nat.min_le_right _ _⟩
theorem LI.skip {d:Nat} (h:LI E s G n t ds) (hm:0<t.mark d) (hd:d∉t.stack):LI E s G n t (fun x=>ds x∨x=d):=by
 obtain ⟨new,hst,hnew⟩:=h.stack
 refine ⟨h.was,h.white,h.inv,h.ext,h.nmark,h.low_le,h.low_or,h.stack,fun x hx => ?_⟩
 rcases hx with hx | rfl
 ·exact h.proc x hx
 ·exact ⟨hm,fun hs=>absurd (by rw [hst];exact List.mem_append_left _ hs) hd⟩
theorem LI.keep (h:LI E s G n t ds) (hall : ∀ d,E n d→ds d) (hlow:t.low n≠t.mark n):Post E s t n G:=by
 obtain ⟨new,hst,hnew⟩:=h.stack
 have hlt:t.low n<t.mark n:=Nat.lt_of_le_of_ne h.low_le hlow
 obtain ⟨z,hz,hm,hp⟩ : ∃ z∈s.stack,t.mark z=t.low n∧Path E n z:=by
  rcases h.low_or with h1 | h1
  ·exact absurd h1 hlow
  ·exact h1
 refine ⟨⟨h.inv.lt,h.inv.le,h.inv.inj,h.inv.cnt,h.inv.sorted,h.inv.pos,fun g hg=>h.inv.gray g (List.mem_cons_of_mem _ hg),fun v w hv hg hvw => ?_,h.inv.done,h.inv.ring,fun x hx=>h.inv.reach x (List.mem_cons_of_mem _ hx),fun y hy => ?_⟩,h.ext,by rw [h.nmark];omega,h.low_le,h.low_or,⟨n::new,hst,fun y hy z hz hyz => ?_⟩⟩
 ·by_cases e:v=n
  ·subst e;exact (h.proc w (hall w hvw)).1
  ·exact h.inv.black v w hv (by simp only [List.mem_cons,not_or];exact ⟨e,hg⟩) hvw
 ·obtain ⟨x,hx,hxy,p⟩:=h.inv.back y hy
  rcases List.mem_cons.1 hx with rfl | hx
  ·obtain ⟨x',hx',hxz,p'⟩:=h.was.back z hz
   have h1:=h.old hz
   have h2:=h.old (h.was.gray x' hx')
   exact ⟨x',hx',by omega,(p.trans hp).trans p'⟩
  ·exact ⟨x,hx,hxy,p⟩
 ·rcases List.mem_cons.1 hy with rfl | hy
  ·exact (h.proc z (hall z hyz)).2 hz
  ·exact hnew y hy z hz hyz
theorem LI.pop (h:LI E s G n t ds) (hall : ∀ d,E n d→ds d) (hlow:t.low n=t.mark n) {new:List Nat} (hst:t.stack=s.stack++n::new) {r:Nat} {ring':Nat→Nat} (hr1 : ∀ v∈n::new,ring' v=r)
  (hr2 : ∀ v,v∉n::new→ring' v=t.ring v) (hmem:r∈n::new) (hmin : ∀ v∈n::new,r≤v):Post E s { t with ring:=ring',stack:=s.stack } n G:=by
 obtain ⟨new2,hst2,hnew⟩:=h.stack
 have e2:new2=new:=by
  rw [hst] at hst2
  have:=List.append_cancel_left hst2
  simp only [List.cons.injEq,true_and] at this
  exact this.symm
 subst e2
 have hC : ∀ y∈n::new2,y∈t.stack:=fun y hy=>by rw [hst];exact List.mem_append_right _ hy
 have hCn : ∀ y∈n::new2,t.mark n≤t.mark y:=fun y hy=>h.new hst hy
 have hS : ∀ y∈s.stack,y∈t.stack:=fun y hy=>by rw [hst];exact List.mem_append_left _ hy
 have hdis : ∀ y∈n::new2,y∉s.stack:=fun y hy hs=>by have:=hCn y hy;have:=h.old hs;omega
 have hfrom : ∀ y∈n::new2,Path E n y:=fun y hy=>h.inv.reach n List.mem_cons_self y (hC y hy) (hCn y hy)
 have hto : ∀ y∈n::new2,Path E y n:=fun y hy=>by
  obtain ⟨x,hx,hxy,p⟩:=h.inv.back y (hC y hy)
  refine p.trans (h.inv.reach x hx n (hC n List.mem_cons_self) ?_)
  rcases List.mem_cons.1 hx with rfl | hx
  ·exact Nat.le_refl _
  ·have:=h.old (h.was.gray x hx);omega
 have hout : ∀ y∈n::new2,∀ w,E y w→0<t.mark w∧(w∈n::new2∨w∉t.stack):=by
  intro y hy w hyw
  have hw0:0<t.mark w:=by
   rcases List.mem_cons.1 hy with rfl | hy'
   ·exact (h.proc w (hall w hyw)).1
   ·refine h.inv.black y w (h.inv.pos y (hC y hy)) ?_ hyw
    simp only [List.mem_cons,not_or]
    refine ⟨fun e => ?_,fun hg=>hdis y hy (h.was.gray y hg)⟩
    subst e
    have h1:=h.inv.sorted
    rw [hst,List.pairwise_append] at h1
    exact absurd ((List.pairwise_cons.1 h1.2.1).1 y hy') (Nat.lt_irrefl _)
  refine ⟨hw0,?_⟩
  by_cases hws:w∈t.stack
  ·left
   have hws':=hws
   rw [hst] at hws'
   rcases List.mem_append.1 hws' with h3 | h3
   ·have h4:=h.old h3
    have h5:t.low n≤t.mark w:=by
     rcases List.mem_cons.1 hy with rfl | hy'
     ·exact (h.proc w (hall w hyw)).2 h3
     ·exact hnew y hy' w h3 hyw
    omega
   ·exact h3
  ·exact .inr hws
 have hdone : ∀ a b,(0<t.mark a∧a∉t.stack)→E a b→(0<t.mark b∧b∉t.stack):=fun a b ⟨h1,h2⟩ hab =>
  ⟨h.inv.black a b h1 (fun hg=>h2 (h.inv.gray a hg)) hab,h.inv.done a b h1 h2 hab⟩
 have hclosed : ∀ a b,(0<t.mark a∧(a∈n::new2∨a∉t.stack))→E a b→(0<t.mark b∧(b∈n::new2∨b∉t.stack)):=by
  rintro a b ⟨h1,h2 | h2⟩ hab
  ·exact hout a h2 b hab
  ·have:=hdone a b ⟨h1,h2⟩ hab
   exact ⟨this.1,.inr this.2⟩
 have hnot : ∀ v,v∉s.stack→v∉n::new2→v∉t.stack:=fun v h1 h2 h3=>by
  rw [hst] at h3
  rcases List.mem_append.1 h3 with h3 | h3
  ·exact h1 h3
  ·exact h2 h3
 have hsorted:s.stack.Pairwise (fun a b=>t.mark a<t.mark b):=by
  have h1:=h.inv.sorted
  rw [hst,List.pairwise_append] at h1
  exact h1.1
 refine ⟨⟨h.inv.lt,h.inv.le,h.inv.inj,h.inv.cnt,hsorted,fun v hv=>h.inv.pos v (hS v hv),h.was.gray,fun v w hv hg hvw => ?_,fun v w hv hs hvw => ?_,fun v hv hs => ?_,fun x hx y hy=>h.inv.reach x (List.mem_cons_of_mem _ hx) y (hS y hy),fun y hy => ?_⟩,
  ⟨h.ext.mark_old,h.ext.low_old,h.ext.fresh,h.ext.next⟩,by show 0<t.mark n;rw [h.nmark];omega,h.low_le,.inl hlow,⟨[],by simp,by simp⟩⟩
 ·by_cases e:v=n
  ·subst e;exact (h.proc w (hall w hvw)).1
  ·exact h.inv.black v w hv (by simp only [List.mem_cons,not_or];exact ⟨e,hg⟩) hvw
 ·by_cases hvC:v∈n::new2
  ·rcases (hout v hvC w hvw).2 with h1 | h1
   ·exact hdis w h1
   ·exact fun h2=>h1 (hS w h2)
  ·have:=h.inv.done v w hv (hnot v hs hvC) hvw
   exact fun h2=>this (hS w h2)
 ·by_cases hvC:v∈n::new2
  ·show qsf E v (ring' v)
   rw [hr1 v hvC]
   refine ⟨(hto v hvC).trans (hfrom r hmem),(hto r hmem).trans (hfrom v hvC),fun w hvw hwv=>hmin w ?_⟩
   have h1:=Path.closed (S:=fun a=>0<t.mark a∧(a∈n::new2∨a∉t.stack)) hclosed hvw ⟨hv,.inl hvC⟩
   rcases h1.2 with h2 | h2
   ·exact h2
   ·have h3:=Path.closed (S:=fun a=>0<t.mark a∧a∉t.stack) hdone hwv ⟨h1.1,h2⟩
    exact absurd (hC v hvC) h3.2
  ·show qsf E v (ring' v)
   rw [hr2 v hvC]
   exact h.inv.ring v hv (hnot v hs hvC)
 ·obtain ⟨x,hx,hxy,p⟩:=h.was.back y hy
  have h1:=h.old hy
  have h2:=h.old (h.was.gray x hx)
  exact ⟨x,hx,by show t.mark x≤t.mark y;omega,p⟩
end
theorem Inv.empty {s:Srch} (h1 : ∀ v,s.mark v=0) (h2:s.stack=[]) (h3:s.next=0):Inv E s []:=by
 refine ⟨fun v hv => ?_,fun v => ?_,fun u v _ hu => ?_,?_,(by rw [h2];exact .nil),fun v hv => ?_,fun g hg=>(by cases hg),fun v w hv => ?_,fun v w hv => ?_,fun v hv => ?_,fun x hx=>(by cases hx),fun y hy => ?_⟩
 ·rw [h1] at hv;omega
 ·rw [h1];omega
 ·rw [h1] at hu;omega
 ·rw [h3]
  have:wh s.mark≤32:=by
   have:=List.countP_le_length (p:=fun i=>s.mark i==0) (l:=List.range 32)
   rw [List.length_range] at this
   exact this
  omega
 ·rw [h2] at hv;cases hv
 ·rw [h1] at hv;omega
 ·rw [h1] at hv;omega
 ·rw [h1] at hv;omega
 ·rw [h2] at hy;cases hy
theorem Post.final {s s':Srch} {n:Nat} (h:Post E s s' n []) (h1 : ∀ v,s.mark v=0):(∀ v,0<s'.mark v↔Path E n v) ∧ ∀ v,Path E n v→qsf E v (s'.ring v):=by
 have hst : ∀ y,y∉s'.stack:=fun y hy=>by obtain ⟨x,hx,_⟩:=h.inv.back y hy;cases hx
 have hp : ∀ v,Path E n v→0<s'.mark v:=fun v hv=>Path.closed (S:=fun a=>0<s'.mark a) (fun a b ha hab=>h.inv.black a b ha (by simp) hab) hv h.mine
 exact ⟨fun v=>⟨fun hv=>(h.ext.fresh v (h1 v) hv).2,hp v⟩,fun v hv=>h.inv.ring v (hp v hv) (hst v)⟩
end
end Go.Proofs.Yteilffoclpgijaa
namespace Go.Proofs.Yteilffoclpgijaa
set_option linter.unusedVariables false
theorem qhd : ∀ (n:Nat) (l:List Nat),l.Nodup→(∀ x∈l,x<n)→l.length≤n
 | 0,l,_,h=>by
  cases l with
  | nil=>simp
  | cons a t=>exact absurd (h a List.mem_cons_self) (Nat.not_lt_zero _)
 | n+1,l,hn,h=>by
  have h1:=qhd n (l.filter (· != n)) (hn.filter _) (fun x hx=>by
   rw [List.mem_filter] at hx
   have:=h x hx.1
   have h2:x≠n:=by simpa using hx.2
   omega)
  have h2:l.length≤(l.filter (· != n)).length+1:=by
   clear h1 h
   induction l with
   | nil=>simp
   | cons a t ih =>
    rw [List.nodup_cons] at hn
    have ih:=ih hn.2
    by_cases e:a=n
    ·subst e
     have:t.filter (· != a)=t:=List.filter_eq_self.2 fun x hx=>by simp;rintro rfl;exact hn.1 hx
     simp [this]
    ·rw [List.filter_cons_of_pos (by simpa using e)]
     simp only [List.length_cons]
     omega
  omega
theorem q12 {p q:Nat→Bool} (h : ∀ k,q k=true→p k=true) {x:Nat} (hp:p x=true) (hq:q x=false) : ∀ (l:List Nat),x∈l→l.countP q<l.countP p:=by
 intro l
 induction l with
 | nil=>intro h;cases h
 | cons a t ih =>
  intro hm
  rw [List.countP_cons,List.countP_cons]
  have hle:=qpg h t
  rcases List.mem_cons.1 hm with rfl | hm
  ·rw [hp,hq];simp;omega
  ·have:=ih hm
   cases hqa:q a with
   | false=>simp;omega
   | true=>rw [h a hqa];simp;omega
def qph (P:Nat→Nat→Bool) (n:Nat) (out:List Nat) (m:Nat):Bool:=P n m&&(!out.contains m&&(List.range 32).all fun d => !P m d||(P d m||out.contains d))
def qh4 (P:Nat→Nat→Bool) (n:Nat) (out:List Nat):Option Nat:=(List.range 32).find? (qph P n out)
def quj (P:Nat→Nat→Bool) (c:Nat):List Nat:=(List.range 32).filter fun m=>P c m&&P m c
def qka (P:Nat→Nat→Bool) (n:Nat):Nat→List Nat→List Nat
 | 0,out=>out
 | k+1,out=>match qh4 P n out with
  | none=>out
  | some c=>qka P n k (out++quj P c)
def qkb (P:Nat→Nat→Bool) (n:Nat):List Nat:=qka P n 32 []
structure Pre (P:Nat→Nat→Bool):Prop where
 refl : ∀ a,a<32→P a a=true
 trans : ∀ a b c,P a b=true→P b c=true→P a c=true
 lt : ∀ a b,a<32→P a b=true→b<32
structure OKO (P:Nat→Nat→Bool) (n:Nat) (out:List Nat):Prop where
 nodup:out.Nodup
 lt : ∀ m∈out,m<32
 sub : ∀ m∈out,P n m=true
 dc : ∀ m∈out,∀ d,P m d=true→d∈out
section
variable {P:Nat→Nat→Bool} {n:Nat} {out:List Nat}
theorem candO_iff {m:Nat}:qph P n out m=true↔P n m=true∧m∉out ∧ ∀ d,d<32→P m d=true→P d m=true∨d∈out:=by
 simp only [qph,Bool.and_eq_true,Bool.not_eq_true',List.all_eq_true,List.mem_range,Bool.or_eq_true,List.contains_eq_mem,decide_eq_true_eq,decide_eq_false_iff_not]
 constructor
 ·rintro ⟨h1,h2,h3⟩
  refine ⟨h1,h2,fun d hd hm => ?_⟩
  rcases h3 d hd with h | h
  ·rw [hm] at h;cases h
  ·exact h
 ·rintro ⟨h1,h2,h3⟩
  refine ⟨h1,h2,fun d hd => ?_⟩
  cases hm:P m d with
  | false=>exact .inl rfl
  | true=>exact .inr (h3 d hd hm)
theorem qew {c:Nat} (h:qh4 P n out=some c):c<32∧qph P n out c=true ∧ ∀ m,m<c→qph P n out m=false:=by
 unfold qh4 at h
 have h1:=List.find?_some h
 have h2:=List.mem_of_find?_eq_some h
 refine ⟨List.mem_range.1 h2,h1,fun m hm => ?_⟩
 rw [List.find?_range_eq_some] at h
 have:=h.2.2 m hm
 simpa using this
theorem nextO_none:qh4 P n out=none ↔ ∀ m,m<32→qph P n out m=false:=by
 unfold qh4
 rw [List.find?_eq_none]
 simp
theorem mem_ringO {c m:Nat}:m∈quj P c↔m<32∧P c m=true∧P m c=true:=by
 simp [quj,List.mem_filter,List.mem_range]
theorem OKO.nil:OKO P n []:=⟨List.nodup_nil,by simp,by simp,by simp⟩
theorem OKO.step (hP:Pre P) (hn:n<32) (h:OKO P n out) {c:Nat} (hc:qh4 P n out=some c):OKO P n (out++quj P c):=by
 obtain ⟨hc32,hcand,_⟩:=qew hc
 rw [candO_iff] at hcand
 obtain ⟨h1,h2,h3⟩:=hcand
 refine ⟨?_,fun m hm => ?_,fun m hm => ?_,fun m hm d hd => ?_⟩
 ·rw [List.nodup_append]
  refine ⟨h.nodup,List.nodup_range.filter _,fun a ha b hb => ?_⟩
  rintro rfl
  exact h2 (h.dc a ha c (mem_ringO.1 hb).2.2)
 ·rcases List.mem_append.1 hm with hm | hm
  ·exact h.lt m hm
  ·exact (mem_ringO.1 hm).1
 ·rcases List.mem_append.1 hm with hm | hm
  ·exact h.sub m hm
  ·exact hP.trans _ _ _ h1 (mem_ringO.1 hm).2.1
 ·rcases List.mem_append.1 hm with hm | hm
  ·exact List.mem_append_left _ (h.dc m hm d hd)
  ·obtain ⟨hm32,hcm,hmc⟩:=mem_ringO.1 hm
   have hcd:=hP.trans _ _ _ hcm hd
   have hd32:=hP.lt m d hm32 hd
   rcases h3 d hd32 hcd with h4 | h4
   ·exact List.mem_append_right _ (mem_ringO.2 ⟨hd32,hcd,h4⟩)
   ·exact List.mem_append_left _ h4
theorem qrb (hP:Pre P) {c:Nat} (hc:c<32):c∈quj P c:=mem_ringO.2 ⟨hc,hP.refl c hc,hP.refl c hc⟩
theorem OKO.len (h:OKO P n out):out.length≤32:=qhd 32 out h.nodup h.lt
theorem OKO.full (h:OKO P n out) (hl:32≤out.length):qh4 P n out=none:=by
 rw [nextO_none]
 intro m hm
 cases hc:qph P n out m with
 | false=>rfl
 | true =>
  rw [candO_iff] at hc
  have:=qhd 32 (m::out) (List.nodup_cons.2 ⟨hc.2.1,h.nodup⟩) (fun x hx=>by
   rcases List.mem_cons.1 hx with rfl | hx
   ·exact hm
   ·exact h.lt x hx)
  simp only [List.length_cons] at this
  omega
theorem OKO.more (hP:Pre P) (hn:n<32) (h:OKO P n out) : ∀ (k m:Nat),(List.range 32).countP (P m)≤k→P n m=true→m∉out→qh4 P n out≠none
 | k,m,hk,hm,hmo=>by
  intro h0
  have hm32:=hP.lt n m hn hm
  have hno:=nextO_none.1 h0 m hm32
  by_cases hall : ∀ d,d<32→P m d=true→P d m=true∨d∈out
  ·rw [candO_iff.2 ⟨hm,hmo,hall⟩] at hno
   cases hno
  ·have hex : ∃ d,d<32∧P m d=true∧P d m=false∧d∉out:=by
    refine Classical.byContradiction fun hne=>hall fun d hd hmd => ?_
    by_cases h1:d∈out
    ·exact .inr h1
    ·cases h2:P d m with
     | true=>exact .inl rfl
     | false=>exact absurd ⟨d,hd,hmd,h2,h1⟩ hne
   obtain ⟨d,hd,hmd,hdm,hdo⟩:=hex
   have hlt:(List.range 32).countP (P d)<(List.range 32).countP (P m) :=
    q12 (p:=P m) (q:=P d) (fun x hx=>hP.trans _ _ x hmd hx) (hP.refl m hm32) hdm _ (List.mem_range.2 hm32)
   cases k with
   | zero=>omega
   | succ k=>exact OKO.more hP hn h k d (by omega) (hP.trans _ _ _ hm hmd) hdo h0
theorem qmq (hP:Pre P) (hn:n<32) : ∀ (k:Nat) (out:List Nat),OKO P n out→32≤k+out.length→OKO P n (qka P n k out)∧qh4 P n (qka P n k out)=none
 | 0,out,h,hk=>⟨h,h.full (by omega)⟩
 | k+1,out,h,hk=>by
  unfold qka
  cases hc:qh4 P n out with
  | none=>exact ⟨h,hc⟩
  | some c =>
   refine qmq hP hn k _ (h.step hP hn hc) ?_
   have:=List.length_pos_of_mem (qrb hP (qew hc).1)
   rw [List.length_append]
   omega
theorem qmr (hP:Pre P) (hn:n<32) (m:Nat):m∈qkb P n↔P n m=true:=by
 obtain ⟨h1,h2⟩:=qmq hP hn 32 [] OKO.nil (by simp)
 refine ⟨h1.sub m,fun hm => ?_⟩
 refine Classical.byContradiction fun hno => ?_
 exact h1.more hP hn _ m (Nat.le_refl _) hm hno h2
theorem qpi (hP:Pre P) (hn:n<32):OKO P n (qkb P n):=(qmq hP hn 32 [] OKO.nil (by simp)).1
end
end Go.Proofs.Yteilffoclpgijaa
namespace Go.Proofs.Yteilffoclpgijaa
open Go.RowKit
open Rep (rep)
section
variable {α : Type} {n:Nat} {v:Vector α n} {k:Nat}
theorem qsh (hk:k<n):qa7 v (k:Int)=some v[k]:=by
 unfold qa7
 rw [if_pos (Int.natCast_nonneg k)]
 simp [hk]
theorem qgw {x : α} (hk:k<n):qe2 v (k:Int) x=some (v.set k x):=by
 unfold qe2
 rw [if_pos ⟨Int.natCast_nonneg k,by omega⟩]
 congr 1
 refine Vector.ext fun j hj => ?_
 simp [Vector.getElem_setIfInBounds,Vector.getElem_set]
end
def bat (v:Vector Bool 32) (k:Nat):Bool:=v[k]?.getD false
theorem qx2 {v:Vector Bool 32} {k:Nat} (hk:k<32):v[k]=bat v k:=by simp [bat,hk]
theorem qwo {v:Vector Bool 32} {k:Nat} (hk:k<32):qa7 v (k:Int)=some (bat v k):=by rw [qsh hk,qx2 hk]
theorem qge {v:Vector Bool 32} {k j:Nat} {x:Bool} (hk:k<32):bat (v.set k x) j=if k=j then x else bat v j:=by
 unfold bat
 by_cases hj:j<32
 ·simp only [Vector.getElem?_set]
  by_cases e:k=j
  ·subst e;simp
  ·simp [e]
 ·have hkj:k≠j:=by omega
  simp [hj,hkj]
theorem q13 {v u:Vector Bool 32} (h : ∀ k,k<32→bat v k=bat u k):v=u:=by
 refine Vector.ext fun k hk => ?_
 rw [qx2 hk,qx2 hk]
 exact h k hk
theorem qn7 (k:Nat):bat (Zr.zd:Vector Bool 32) k=false:=by
 show bat (Vector.replicate 32 false) k=false
 unfold bat
 by_cases hk:k<32<;>simp [hk]
def cz (v:Vector Bool 32):Nat:=(List.range 32).countP fun k => !bat v k
theorem q5h {v:Vector Bool 32} {k:Nat} (hk:k<32) (h:bat v k=false):cz v=cz (v.set k true)+1:=by
 unfold cz
 refine qpf (n:=k) (by simp [h]) (by rw [qge hk,if_pos rfl];rfl) (fun j hj => ?_) _ List.nodup_range (List.mem_range.2 hk)
 rw [qge hk,if_neg (fun e=>hj e.symm)]
theorem zbj (v:Vector Bool 32):cz v≤32:=by
 unfold cz
 have:=List.countP_le_length (p:=fun k => !bat v k) (l:=List.range 32)
 rw [List.length_range] at this
 exact this
theorem q6r {v u:Vector Bool 32} (h : ∀ k,bat v k=true→bat u k=true):cz u≤cz v:=by
 unfold cz
 refine qpg (fun k hk => ?_) _
 cases hv:bat v k with
 | false=>rfl
 | true=>rw [h k hv] at hk;cases hk
def qa8 (g:GGraph) (a:Nat):List Int:=if h:a<32 then g.deps[a] else []
theorem q9t {g:GGraph} {a:Nat} (h:a<32):qa7 g.deps (a:Int)=some (qa8 g a):=by rw [qsh h];simp [qa8,h]
def Edge (g:GGraph) (a b:Nat):Prop:=a<32∧bat g.known a=true∧(b:Int)∈qa8 g a∧b<32
def qns (g:GGraph) (N:Nat):Prop := ∀ a,(qa8 g a).length<N∧(qa8 g a).length≤17592186043904
theorem qsi {g:GGraph} {a b:Nat} (h:Path (Edge g) a b) (ha:a<32):b<32:=by
 cases h with
 | refl=>exact ha
 | tail _ e=>exact e.2.2.2
theorem qpj {l:List Int} (h:l.length≤100):(l.length+1)*Rep.bytes Int≤140737488351232:=by
 have:Rep.bytes Int=8:=rfl
 rw [this];omega
theorem wrs (k:Nat) (h:k≤17592186043904):IntKind.wrap .i64 ((k:Int)+1)=((k+1:Nat):Int):=by rw [qds (by omega) (by omega)];omega
theorem qhe (x:Int):(∃ b:Nat,b<32∧x=b) ∨ ¬ (0≤x∧x<32):=by
 by_cases h:0≤x∧x<32
 ·exact .inl ⟨x.toNat,by omega,by omega⟩
 ·exact .inr h
theorem qx3 {α : Type} {l:List α} {k:Nat} (hk:k<l.length):l.drop k=l[k]::l.drop (k+1):=List.drop_eq_getElem_cons hk
structure Fed (ds:List Int) (d:Vector Bool 32) (l:List Int) (d':Vector Bool 32) (l':List Int):Prop where
 keep : ∀ k,bat d k=true→bat d' k=true
 all : ∀ b:Nat,b<32→(b:Int)∈ds→bat d' b=true
 only : ∀ k,bat d' k=true→bat d k=true∨((k:Int)∈ds∧(k:Int)∈l')
 old : ∀ x,x∈l→x∈l'
 new : ∀ x,x∈l'→x∈l ∨ ∃ b:Nat,b<32∧x=b∧(b:Int)∈ds∧bat d' b=true
 cnt:l'.length+cz d'=l.length+cz d
theorem Fed.refl {d:Vector Bool 32} {l:List Int}:Fed [] d l d l:=⟨fun _ h=>h,fun _ _ h=>by simp at h,fun _ h => .inl h,fun _ h=>h,fun _ h => .inl h,rfl⟩
theorem Fed.skip {x:Int} {ds:List Int} {d d':Vector Bool 32} {l l':List Int} (hx : ∀ b:Nat,b<32→x=b→bat d b=true) (h:Fed ds d l d' l'):Fed (x::ds) d l d' l':=by
 refine ⟨h.keep,fun b hb hm => ?_,fun k hk => ?_,h.old,fun y hy => ?_,h.cnt⟩
 ·rcases List.mem_cons.1 hm with e | hm
  ·exact h.keep b (hx b hb e.symm)
  ·exact h.all b hb hm
 ·rcases h.only k hk with h1 | h1
  ·exact .inl h1
  ·exact .inr ⟨List.mem_cons_of_mem _ h1.1,h1.2⟩
 ·rcases h.new y hy with h1 | ⟨b,h1,h2,h3,h4⟩
  ·exact .inl h1
  ·exact .inr ⟨b,h1,h2,List.mem_cons_of_mem _ h3,h4⟩
theorem Fed.push {a:Nat} {ds:List Int} {d d':Vector Bool 32} {l l':List Int} (ha:a<32) (hd:bat d a=false) (h:Fed ds (d.set a true) (l++[(a:Int)]) d' l'):Fed ((a:Int)::ds) d l d' l':=by
 have hset:bat (d.set a true) a=true:=by rw [qge ha,if_pos rfl]
 refine ⟨fun k hk=>h.keep k (by rw [qge ha];split<;>simp [hk]),fun b hb hm => ?_,fun k hk => ?_,fun y hy=>h.old y (List.mem_append_left _ hy),fun y hy => ?_,?_⟩
 ·rcases List.mem_cons.1 hm with e | hm
  ·have:b=a:=by omega
   subst this
   exact h.keep b hset
  ·exact h.all b hb hm
 ·rcases h.only k hk with h1 | h1
  ·rw [qge ha] at h1
   by_cases e:a=k
   ·subst e
    exact .inr ⟨List.mem_cons_self,h.old _ (by simp)⟩
   ·rw [if_neg e] at h1
    exact .inl h1
  ·exact .inr ⟨List.mem_cons_of_mem _ h1.1,h1.2⟩
 ·rcases h.new y hy with h1 | ⟨b,h1,h2,h3,h4⟩
  ·rcases List.mem_append.1 h1 with h1 | h1
   ·exact .inl h1
   ·rw [List.mem_singleton] at h1
    exact .inr ⟨a,ha,h1,List.mem_cons_self,h.keep a hset⟩
  ·exact .inr ⟨b,h1,h2,List.mem_cons_of_mem _ h3,h4⟩
 ·have h1:=h.cnt
  have h2:=q5h ha hd
  rw [List.length_append] at h1
  simp only [List.length_cons,List.length_nil] at h1
  omega
theorem qpk {rec:Vector Bool 32→List Int→Option (Vector Bool 32)} {ds:List Int} (hds:ds.length≤17592186043904) : ∀ (n m k:Nat) (d:Vector Bool 32) (l:List Int),ds.length=k+m→m<n→l.length+cz d≤100 →
  ∃ d' l',qdq rec ds n d l k=rec d' l'∧Fed (ds.drop k) d l d' l'
 | 0,m,k,d,l,_,h,_=>absurd h (by omega)
 | n+1,0,k,d,l,hk,_,_=>⟨d,l,by rw [qdq,qad (qae (by omega))],by rw [List.drop_of_length_le (by omega)];exact Fed.refl⟩
 | n+1,m+1,k,d,l,hk,hn,hl=>by
  have hlt:k<ds.length:=by omega
  have ih:=fun d l h=>qpk (rec:=rec) hds n m (k+1) d l (by omega) (by omega) h
  rw [qdq,qaj (qaf (by omega)),qbm,List.getElem?_eq_getElem hlt,qaa,qx3 hlt]
  simp only [qjn,qle,wrs k (by omega)]
  generalize ds[k]=x
  rcases qhe x with ⟨b,hb,rfl⟩ | hx
  ·rw [qaj (qaf (by omega)),qaj (qaf (by omega)),qa4 (by omega) (by omega),qaa,qwo hb,qaa]
   cases hd:bat d b with
   | true =>
    obtain ⟨d',l',h1,h2⟩:=ih d l hl
    exact ⟨d',l',by rw [← h1];rfl,h2.skip fun c _ e=>(show c=b by omega) ▸ hd⟩
   | false =>
    have hc:=q5h hb hd
    obtain ⟨d',l',h1,h2⟩:=ih (d.set b true) (l++[(b:Int)]) (by simp;omega)
    refine ⟨d',l',?_,h2.push hb hd⟩
    simp only [Bool.not_false,cond_true,qaa,qgw hb,qbx (a:=l) (b:=[(b:Int)]) (qpj (show l.length≤100 by omega))]
    exact h1
  ·obtain ⟨d',l',h1,h2⟩:=ih d l hl
   refine ⟨d',l',?_,h2.skip fun c hc e=>absurd (show 0≤x∧x<32 by omega) hx⟩
   by_cases h0:x≥0
   ·rw [qaj (qaf h0),qad (qae (by omega))];exact h1
   ·rw [qad (qae h0)];exact h1
structure Going (g:GGraph) (s:Nat) (d:Vector Bool 32) (l:List Int):Prop where
 first:bat d s=true
 path : ∀ k,bat d k=true→Path (Edge g) s k
 work : ∀ x∈l,∃ b:Nat,b<32∧x=b∧bat d b=true
 closed : ∀ a b,bat d a=true→(a:Int)∉l→Edge g a b→bat d b=true
theorem Going.fin {g:GGraph} {s:Nat} {d:Vector Bool 32} (h:Going g s d []) (k:Nat):bat d k=true↔Path (Edge g) s k :=
 ⟨h.path k,fun hp=>Path.closed (S:=fun a=>bat d a=true) (fun a b ha he=>h.closed a b ha (by simp) he) hp h.first⟩
open Classical in
noncomputable def quk (g:GGraph) (s:Nat):Vector Bool 32:=Vector.ofFn fun k=>decide (Path (Edge g) s k.val)
theorem qms {g:GGraph} {s k:Nat} (hk:k<32):bat (quk g s) k=true↔Path (Edge g) s k:=by
 unfold bat quk
 simp [hk]
theorem q14 {g:GGraph} {s:Nat} {d:Vector Bool 32} (h : ∀ k,bat d k=true↔Path (Edge g) s k):d=quk g s:=by
 refine q13 fun k hk => ?_
 rw [Bool.eq_iff_iff,h,qms hk]
theorem q4r {l:List Int} (h:0<l.length):qqs l none (some ((l.length:Int)-1))=some l.dropLast:=by
 unfold qqs qgm
 simp only [Option.getD_none,Option.getD_some]
 rw [if_pos (by omega)]
 simp only [Option.map_some,Option.some.injEq]
 rw [List.dropLast_eq_take,show ((0:Int)).toNat=0 from rfl,List.drop_zero]
 congr 1
 omega
theorem qky {fu N:Nat} {g:GGraph} (hg:qns g N) (hf:N≤fu) {s:Nat} : ∀ (n:Nat) (d:Vector Bool 32) (l:List Int),Going g s d l→l.length+cz d<n→l.length+cz d≤100→qdr fu g n d l=some (quk g s)
 | 0,d,l,_,h,_=>absurd h (by omega)
 | n+1,d,l,hG,hn,hl=>by
  rw [qdr]
  by_cases h0:l.length=0
  ·have:l=[]:=List.length_eq_zero_iff.1 h0
   subst this
   rw [qad (qae (by simp)),qaa,q14 hG.fin]
  ·rw [qaj (qaf (by omega)),qds (by omega) (by omega),show ((l.length:Int)-1)=((l.length-1:Nat):Int) from by omega,qbm,List.getElem?_eq_getElem (by omega),qaa,
    show (((l.length-1:Nat):Int))=(l.length:Int)-1 from by omega,q4r (by omega),qaa]
   have hlast:l=l.dropLast++[l[l.length-1]]:=by
    have h1:=List.dropLast_concat_getLast (l:=l) (by rintro rfl;simp at h0)
    rw [List.getLast_eq_getElem] at h1
    exact h1.symm
   obtain ⟨m,hm,hx,hdm⟩:=hG.work l[l.length-1] (List.getElem_mem _)
   rw [hx] at hlast ⊢
   generalize hl2:l.dropLast=l2 at hlast ⊢
   have hlen:l.length=l2.length+1:=by rw [hlast];simp
   have hmem : ∀ x,x∈l→x∈l2∨x=m:=fun x hx=>by
    rw [hlast] at hx
    rcases List.mem_append.1 hx with h | h
    ·exact .inl h
    ·exact .inr (by simpa using h)
   have hsub : ∀ x,x∈l2→x∈l:=fun x hx=>by rw [hlast];exact List.mem_append_left _ hx
   rw [qa4 (by omega) (by omega),qaa,qwo hm,qaa]
   cases hk:bat g.known m with
   | false =>
    rw [qaj (by rfl)]
    refine qky hg hf n d l2 ⟨hG.first,hG.path,fun x hx=>hG.work x (hsub x hx),fun a b ha hno he => ?_⟩ (by omega) (by omega)
    by_cases e:a=m
    ·subst e;rw [he.2.1] at hk;cases hk
    ·refine hG.closed a b ha (fun hal => ?_) he
     rcases hmem _ hal with h1 | h1
     ·exact hno h1
     ·omega
   | true =>
    rw [qad (by rfl),qaa,q9t hm,qaa]
    obtain ⟨d',l',h1,h2⟩:=qpk (rec:=qdr fu g n) (hg m).2 fu (qa8 g m).length 0 d l2 (by omega) (by have:=(hg m).1;omega) (by omega)
    have h1:qdq (qdr fu g n) (qa8 g m) fu d l2 0=qdr fu g n d' l':=h1
    rw [h1]
    rw [List.drop_zero] at h2
    have hc:=h2.cnt
    refine qky hg hf n d' l' ⟨h2.keep _ hG.first,fun k hk' => ?_,fun x hx => ?_,fun a b ha hno he => ?_⟩ (by omega) (by omega)
    ·rcases h2.only k hk' with h3 | ⟨h3,h4⟩
     ·exact hG.path k h3
     ·rcases h2.new k h4 with h5 | ⟨b,hb,e,_,_⟩
      ·obtain ⟨b,hb,e,hd⟩:=hG.work _ (hsub _ h5)
       have:k=b:=by omega
       subst this
       exact hG.path k hd
      ·have:k=b:=by omega
       subst this
       exact .tail (hG.path m hdm) ⟨hm,hk,h3,hb⟩
    ·rcases h2.new x hx with h3 | ⟨b,hb,e,_,hd⟩
     ·obtain ⟨b,hb,e,hd⟩:=hG.work x (hsub x h3)
      exact ⟨b,hb,e,h2.keep b hd⟩
     ·exact ⟨b,hb,e,hd⟩
    ·by_cases e:a=m
     ·subst e;exact h2.all b he.2.2.2 he.2.2.1
     ·rcases h2.only a ha with h3 | ⟨_,h3⟩
      ·refine h2.keep b (hG.closed a b h3 (fun hal => ?_) he)
       rcases hmem _ hal with h4 | h4
       ·exact hno (h2.old _ h4)
       ·omega
      ·exact absurd h3 hno
noncomputable def qna (g:GGraph) (x:Int):Vector Bool 32:=if 0≤x∧x<32 then quk g x.toNat else Zr.zd
theorem qwp (g:GGraph) {s:Nat} (hs:s<32):Going g s ((Zr.zd:Vector Bool 32).set s true) [(s:Int)]:=by
 have h1 : ∀ k,bat ((Zr.zd:Vector Bool 32).set s true) k=true↔s=k:=fun k=>by
  rw [qge hs,qn7]
  by_cases e:s=k<;>simp [e]
 refine ⟨(h1 s).2 rfl,fun k hk => ?_,fun x hx => ?_,fun a b ha hno he => ?_⟩
 ·rw [(h1 k).1 hk];exact .refl _
 ·exact ⟨s,hs,by simpa using hx,(h1 s).2 rfl⟩
 ·have:=(h1 a).1 ha
  subst this
  exact absurd (by simp) hno
theorem q15 {fu N:Nat} {g:GGraph} (hg:qns g N) (hf:N+40≤fu) (x:Int):qtv fu g x=some (qna g x):=by
 unfold qtv qna
 rcases qhe x with ⟨s,hs,rfl⟩ | hx
 ·rw [qad (qae (by omega)),qjo,qad (qae (by omega)),if_pos (by omega),qn3,qa4 (by omega) (by omega),qaa,qwo hs,qaa,qgw hs,qaa,qaa]
  have hc:=zbj ((Zr.zd:Vector Bool 32).set s true)
  exact qky hg (by omega) fu _ _ (qwp g hs) (by simp;omega) (by simp;omega)
 ·rw [if_neg hx]
  by_cases h0:x<0
  ·rw [qaj (qaf h0)];rfl
  ·rw [qad (qae h0),qjo,qaj (qaf (by omega))];rfl
structure Grown (ds:List Int) (d:Vector Bool 32) (c:Bool) (d':Vector Bool 32) (c':Bool):Prop where
 keep : ∀ k,bat d k=true→bat d' k=true
 all : ∀ b:Nat,b<32→(b:Int)∈ds→bat d' b=true
 only : ∀ k,bat d' k=true→bat d k=true∨((k:Int)∈ds∧k<32)
 same:c'=false→c=false∧d'=d
 less:c'=true→c=true∨cz d'<cz d
theorem Grown.cz {ds:List Int} {d d':Vector Bool 32} {c c':Bool} (h:Grown ds d c d' c'):cz d'≤cz d:=q6r h.keep
def qn8 (g:GGraph) (d:Vector Bool 32) (k:Nat):Prop := ∀ j,k≤j→j<32→bat d j=true→bat g.known j=true
open Classical in
noncomputable def qeg (g:GGraph) (x:Int):Bool:=decide ((0≤x∧x<32) ∧ ∀ j,j<32→bat (qna g x) j=true→bat g.known j=true)
theorem qpl {g:GGraph} {d:Vector Bool 32} : ∀ (n m k:Nat),k+m=32→m<n → ∃ b,qd8 g d n k=some b∧(b=true↔qn8 g d k)
 | 0,m,k,_,h=>absurd h (by omega)
 | n+1,0,k,hk,_=>⟨true,by rw [qd8,qad (qae (by omega))],by simp only [true_iff];intro j h1 h2;omega⟩
 | n+1,m+1,k,hk,hn=>by
  have hk32:k<32:=by omega
  obtain ⟨b,h1,h2⟩:=qpl (g:=g) (d:=d) n m (k+1) (by omega) (by omega)
  rw [qd8,qaj (qaf (by omega)),qwo hk32,qaa]
  simp only [qlf,qn4,wrs k (by omega)]
  have step:(bat d k=true→bat g.known k=true)→(b=true↔qn8 g d k):=fun hs=>by
   rw [h2]
   constructor
   ·intro h j hj
    by_cases e:j=k
    ·subst e;intro _;exact hs
    ·exact h j (by omega)
   ·intro h j hj
    exact h j (by omega)
  cases hd:bat d k with
  | false=>exact ⟨b,h1,step fun h=>by rw [hd] at h;cases h⟩
  | true =>
   rw [qaj rfl,qa4 (by omega) (by omega),qaa,qwo hk32,qaa]
   cases hkn:bat g.known k with
   | true=>exact ⟨b,h1,step fun _=>hkn⟩
   | false =>
    refine ⟨false,rfl,?_⟩
    simp only [Bool.false_eq_true,false_iff]
    intro h
    have:=h k (Nat.le_refl _) hk32 hd
    rw [hkn] at this;cases this
theorem readyZ_iff {g:GGraph} {x:Int}:qeg g x=true↔(0≤x∧x<32)∧qn8 g (qna g x) 0:=by
 unfold qeg qn8
 simp
theorem q16 {fu N:Nat} {g:GGraph} (hg:qns g N) (hf:N+40≤fu) (x:Int):qtw fu g x=some (qeg g x):=by
 unfold qtw
 rcases qhe x with ⟨s,hs,rfl⟩ | hx
 ·rw [qad (qae (by omega)),qjp,qad (qae (by omega)),qn5,q15 hg hf,qaa]
  obtain ⟨b,h1,h2⟩:=qpl (g:=g) (d:=qna g s) fu 32 0 (by omega) (by omega)
  have h1:qd8 g (qna g s) fu 0=some b:=h1
  rw [h1]
  congr 1
  rw [Bool.eq_iff_iff,h2,readyZ_iff]
  simp;omega
 ·have:qeg g x=false:=by
   cases h:qeg g x with
   | false=>rfl
   | true=>exact absurd (readyZ_iff.1 h).1 hx
  rw [this]
  by_cases h0:x<0
  ·rw [qaj (qaf h0)];rfl
  ·rw [qad (qae h0),qjp,qaj (qaf (by omega))]
end Go.Proofs.Yteilffoclpgijaa
namespace Go.Proofs.Yteilffoclpgijaa
open Go.RowKit
open Rep (rep)
def iat (v:Vector Int 32) (k:Nat):Int:=v[k]?.getD 0
theorem qzm {v:Vector Int 32} {k:Nat} (hk:k<32):qa7 v (k:Int)=some (iat v k):=by rw [qsh hk];simp [iat,hk]
theorem qpm {v:Vector Int 32} {k j:Nat} {x:Int} (hk:k<32):iat (v.set k x) j=if k=j then x else iat v j:=by
 unfold iat
 by_cases hj:j<32
 ·simp only [Vector.getElem?_set]
  by_cases e:k=j
  ·subst e;simp
  ·simp [e]
 ·have hkj:k≠j:=by omega
  simp [hj,hkj]
theorem qsj (k:Nat):iat (Zr.zd:Vector Int 32) k=0:=by
 show iat (Vector.replicate 32 0) k=0
 unfold iat
 by_cases hk:k<32<;>simp [hk]
def DE (g:GGraph) (a b:Nat):Prop:=a<32∧(b:Int)∈qa8 g a∧b<32
structure Abs (x:GSearch) (l:List Int) (t:Srch):Prop where
 mark : ∀ k,k<32→iat x.mark_ k=(t.mark k:Int)
 low : ∀ k,k<32→iat x.low k=(t.low k:Int)
 ring : ∀ k,k<32→iat x.ring k=(t.ring k:Int)
 on : ∀ k,k<32→bat x.on_ k=decide (k∈t.stack)
 stack:l=t.stack.map fun k=>((k:Nat):Int)
 next:x.next=(t.next:Int)
theorem LI.sub {E:Nat→Nat→Prop} {s t:Srch} {G:List Nat} {n:Nat} {ds ds':Nat→Prop} (h:LI E s G n t ds) (hs : ∀ d,ds' d→ds d):LI E s G n t ds' :=
 ⟨h.was,h.white,h.inv,h.ext,h.nmark,h.low_le,h.low_or,h.stack,fun d hd=>h.proc d (hs d hd)⟩
def VOk (g:GGraph) (fu n:Nat):Prop := ∀ (x:GSearch) (l:List Int) (t:Srch) (G:List Nat) (m:Nat),x.g=g→Abs x l t→Inv (DE g) t G→t.mark m=0→m<32→(∀ a∈G,Path (DE g) a m)→wh t.mark≤n →
 ∃ x' l' t',qhr fu n x l m=some (x',l')∧x'.g=g∧Abs x' l' t'∧Post (DE g) t t' m G
theorem qul {E:Nat→Nat→Prop} {s:Srch} {G:List Nat} (h:Inv E s G):s.stack.length≤32:=by
 refine qhd 32 s.stack ?_ fun x hx=>h.lt x (h.pos x hx)
 rw [List.nodup_iff_pairwise_ne]
 refine h.sorted.imp fun {a b} hab => ?_
 rintro rfl
 omega
theorem qh5 {a b:Nat} (h:(a:Int)=b):a=b:=by omega
theorem qpn {l:List Int} {y174:Int} {r:Nat} (C:List Nat) (hC : ∀ c∈C,c<32) (hlen:C.length≤32) : ∀ (n m k:Nat) (x:GSearch),C.length=k+m→m<n →
  ∃ x':GSearch,qd9 l y174 r (C.map fun c=>((c:Nat):Int)) n x k=((qqs l none (some y174)).bind fun l2=>some ({ x' with stack:=Hole.mk },l2))∧x'.g=x.g∧x'.mark_=x.mark_∧x'.low=x.low∧x'.next=x.next ∧
   (∀ j,iat x'.ring j=if j∈C.drop k then (r:Int) else iat x.ring j)∧(∀ j,bat x'.on_ j=if j∈C.drop k then false else bat x.on_ j)
 | 0,m,k,x,_,h=>absurd h (by omega)
 | n+1,0,k,x,hk,_=>by
  refine ⟨x,?_,rfl,rfl,rfl,rfl,fun j => ?_,fun j => ?_⟩
  ·rw [qd9,qad (qae (by simp;omega))]
   rfl
  ·rw [List.drop_of_length_le (by omega)];simp
  ·rw [List.drop_of_length_le (by omega)];simp
 | n+1,m+1,k,x,hk,hn=>by
  have hlt:k<C.length:=by omega
  have hc:=hC C[k] (List.getElem_mem _)
  obtain ⟨x',h1,h2,h3,h4,h5,h6,h7⟩:=qpn (l:=l) (y174:=y174) (r:=r) C hC hlen n m (k+1) { x with ring:=x.ring.set C[k] (r:Int),on_:=x.on_.set C[k] false } (by omega) (by omega)
  refine ⟨x',?_,h2,h3,h4,h5,fun j => ?_,fun j => ?_⟩
  ·rw [qd9,qaj (qaf (by simp;omega)),qbm,List.getElem?_map,List.getElem?_eq_getElem hlt]
   simp only [Option.map_some,qaa,qa4 (show (0:Int)≤((C[k]:Nat):Int) by omega) (show ((C[k]:Nat):Int)<32 by omega),qzm hc,qwo hc,qgw hc,wrs k (show k≤17592186043904 by omega)]
   exact h1
  ·rw [h6 j,List.drop_eq_getElem_cons hlt]
   show (if j∈C.drop (k+1) then (r:Int) else iat (x.ring.set C[k] (r:Int)) j)=_
   rw [qpm hc]
   simp only [List.mem_cons]
   by_cases e:C[k]=j
   ·rw [if_pos e,if_pos (show j=C[k]∨j∈C.drop (k+1) from .inl e.symm)];split<;>rfl
   ·have e2 : ¬ j=C[k]:=fun h=>e h.symm
    rw [if_neg e]
    simp only [e2,false_or]
  ·rw [h7 j,List.drop_eq_getElem_cons hlt]
   show (if j∈C.drop (k+1) then false else bat (x.on_.set C[k] false) j)=_
   rw [qge hc]
   simp only [List.mem_cons]
   by_cases e:C[k]=j
   ·rw [if_pos e,if_pos (show j=C[k]∨j∈C.drop (k+1) from .inl e.symm)];split<;>rfl
   ·have e2 : ¬ j=C[k]:=fun h=>e h.symm
    rw [if_neg e]
    simp only [e2,false_or]
theorem qpo {fu:Nat} {x:GSearch} {l l2:List Int} {y174:Int} (hcut:qqs l (some y174) none=some l2) (C:List Nat) (hlen:C.length≤32) : ∀ (n m k r:Nat),C.length=k+m→m<n→r∈C→(∀ i v,i<k→C[i]? = some v→r≤v) →
  ∃ r':Nat,qea fu x l y174 (C.map fun c=>((c:Nat):Int)) n r k=qd9 l y174 (r':Int) l2 fu x 0∧r'∈C ∧ ∀ v∈C,r'≤v
 | 0,m,k,r,_,h,_,_=>absurd h (by omega)
 | n+1,0,k,r,hk,_,hr,hmin=>by
  refine ⟨r,?_,hr,fun v hv => ?_⟩
  ·rw [qea,qad (qae (by simp;omega)),hcut,qaa]
  ·obtain ⟨i,hi,rfl⟩:=List.getElem_of_mem hv
   exact hmin i _ (by omega) (List.getElem?_eq_getElem hi)
 | n+1,m+1,k,r,hk,hn,hr,hmin=>by
  have hlt:k<C.length:=by omega
  have hmn:min (r:Int) (C[k]:Int)=((min r C[k]:Nat):Int):=by
   by_cases h:r≤C[k]
   ·rw [Nat.min_eq_left h,Int.min_eq_left (by omega)]
   ·rw [Nat.min_eq_right (by omega),Int.min_eq_right (by omega)]
  obtain ⟨r',h1,h2,h3⟩:=qpo (fu:=fu) (x:=x) hcut C hlen n m (k+1) (min r C[k]) (by omega) (by omega) (by
    by_cases h:r≤C[k]
    ·rw [Nat.min_eq_left h];exact hr
    ·rw [Nat.min_eq_right (by omega)];exact List.getElem_mem _) (fun i v hi hv=>by
    by_cases e:i=k
    ·subst e
     rw [List.getElem?_eq_getElem hlt] at hv
     cases hv
     exact Nat.min_le_right _ _
    ·exact Nat.le_trans (Nat.min_le_left _ _) (hmin i v (by omega) hv))
  refine ⟨r',?_,h2,h3⟩
  rw [qea,qaj (qaf (by simp;omega)),qbm,List.getElem?_map,List.getElem?_eq_getElem hlt]
  simp only [Option.map_some,qaa]
  rw [hmn,wrs k (by omega)]
  exact h1
theorem qpp {fu:Nat} {x:GSearch} {S:List Nat} {m p:Nat} (hlen:S.length≤32) (hp:S[p]? = some m) (hno : ∀ i,p<i→S[i]? ≠ some m) : ∀ (n d:Nat),d<n→p+d<S.length →
  qfk fu m x (S.map fun c=>((c:Nat):Int)) n ((p+d:Nat):Int)=(qqs (S.map fun c=>((c:Nat):Int)) (some (p:Int)) none).bind fun l2=>qea fu x (S.map fun c=>((c:Nat):Int)) p l2 fu m 0
 | 0,d,h,_=>absurd h (by omega)
 | n+1,0,_,hd=>by
  rw [qfk,qbm,List.getElem?_map,Nat.add_zero,hp]
  simp only [Option.map_some,qaa]
  rw [qad (by simp)]
 | n+1,d+1,hn,hd=>by
  have ih:=qpp (fu:=fu) (x:=x) hlen hp hno n d (by omega) (by omega)
  have hlt:p+(d+1)<S.length:=hd
  have hne:=hno (p+(d+1)) (by omega)
  rw [List.getElem?_eq_getElem hlt] at hne
  rw [qfk,qbm,List.getElem?_map,List.getElem?_eq_getElem hlt]
  simp only [Option.map_some,qaa]
  rw [qaj (by simp only [bne_iff_ne,ne_eq];exact fun h=>hne (by rw [qh5 h])),qds (by omega) (by omega),show (((p+(d+1):Nat):Int)-1)=((p+d:Nat):Int) from by omega]
  exact ih
theorem q17 {α : Type} {l:List α} {p:Nat} (hp:p≤l.length):qqs l (some (p:Int)) none=some (l.drop p):=by
 unfold qqs qgm
 simp only [Option.getD_some,Option.getD_none]
 rw [if_pos (by omega)]
 simp
theorem qum {α : Type} {l:List α} {p:Nat} (hp:p≤l.length):qqs l none (some (p:Int))=some (l.take p):=by
 unfold qqs qgm
 simp only [Option.getD_some,Option.getD_none]
 rw [if_pos (by omega)]
 simp
theorem q18 {fu n:Nat} (hfu:40≤fu) {g:GGraph} {x:GSearch} {l:List Int} {s t:Srch} {G:List Nat} {m:Nat} {ds:Nat→Prop} (hm:m<32) (hg:x.g=g) (hA:Abs x l t) (h:LI (DE g) s G m t ds) (hall : ∀ d,DE g m d→ds d) {rec0:GSearch→List Int→Int→Option (GSearch × List Int)} {xs:List Int} {k:Int} (hk : ¬ k<(xs.length:Int)) :
  ∃ x' l' t',qeb fu m rec0 xs (n+1) x l k=some (x',l')∧x'.g=g∧Abs x' l' t'∧Post (DE g) s t' m G:=by
 rw [qeb,qad (qae hk),qa4 (by omega) (by omega),qaa,qzm hm,qaa,qaa,qzm hm,qaa,hA.low m hm,hA.mark m hm]
 by_cases hlow:t.low m=t.mark m
 ·rw [qad (by simp [hlow])]
  obtain ⟨new,hst,hnew⟩:=h.stack
  have hlen:=qul h.inv
  have hsl:t.stack.length=s.stack.length+(new.length+1):=by rw [hst];simp
  have hp:t.stack[s.stack.length]? = some m:=by rw [hst];simp
  have hno : ∀ i,s.stack.length<i→t.stack[i]? ≠ some m:=fun i hi he=>by
   obtain ⟨h1,h2⟩:=List.getElem?_eq_some_iff.1 he
   obtain ⟨h3,h4⟩:=List.getElem?_eq_some_iff.1 hp
   have:=List.pairwise_iff_getElem.1 h.inv.sorted s.stack.length i h3 h1 hi
   rw [h2,h4] at this
   omega
  have hlm:l=t.stack.map fun c=>((c:Nat):Int):=hA.stack
  subst hlm
  have e1:=qpp (fu:=fu) (x:=x) (S:=t.stack) (m:=m) (p:=s.stack.length) hlen hp hno fu new.length (by omega) (by omega)
  have e0:IntKind.wrap .i64 (((t.stack.map fun c=>((c:Nat):Int)).length:Int)-1)=((s.stack.length+new.length:Nat):Int):=by
   rw [List.length_map,qds (by omega) (by omega)];omega
  have hcut:qqs (t.stack.map fun c=>((c:Nat):Int)) (some (s.stack.length:Int)) none=some ((m::new).map fun c=>((c:Nat):Int)):=by
   rw [q17 (by rw [List.length_map];omega),hst,← List.map_drop,List.drop_left]
  have hC : ∀ c∈m::new,c<32:=fun c hc=>h.inv.lt c (h.inv.pos c (by rw [hst];exact List.mem_append_right _ hc))
  have hCl:(m::new).length≤32:=by rw [List.length_cons];omega
  rw [e0,e1,hcut,qaa]
  obtain ⟨r,h3,h4,h5⟩:=qpo (fu:=fu) (x:=x) hcut (m::new) hCl fu (m::new).length 0 m (by omega) (by omega) List.mem_cons_self (fun i v hi=>by omega)
  have h3:qea fu x (t.stack.map fun c=>((c:Nat):Int)) (s.stack.length:Int) ((m::new).map fun c=>((c:Nat):Int)) fu m 0=_:=h3
  rw [h3]
  obtain ⟨x',k1,k2,k3,k4,k5,k6,k7⟩:=qpn (l:=t.stack.map fun c=>((c:Nat):Int)) (y174:=(s.stack.length:Int)) (r:=r) (m::new) hC hCl fu (m::new).length 0 x (by omega) (by omega)
  have k1:qd9 (t.stack.map fun c=>((c:Nat):Int)) (s.stack.length:Int) r ((m::new).map fun c=>((c:Nat):Int)) fu x 0=_:=k1
  rw [k1,qum (by rw [List.length_map];omega),qaa]
  rw [List.drop_zero] at k6 k7
  refine ⟨_,_,{ t with ring:=fun v=>if v∈m::new then r else t.ring v,stack:=s.stack },rfl,k2.trans hg,⟨fun j hj => ?_,fun j hj => ?_,fun j hj => ?_,fun j hj => ?_,?_,?_⟩,?_⟩
  ·show iat x'.mark_ j=_
   rw [k3];exact hA.mark j hj
  ·show iat x'.low j=_
   rw [k4];exact hA.low j hj
  ·show iat x'.ring j=((if j∈m::new then r else t.ring j:Nat):Int)
   rw [k6 j,hA.ring j hj]
   split<;>rfl
  ·show bat x'.on_ j=decide (j∈s.stack)
   rw [k7 j,hA.on j hj,hst]
   by_cases hj2:j∈m::new
   ·rw [if_pos hj2]
    symm
    rw [decide_eq_false_iff_not]
    intro hs
    have:=h.new hst hj2
    have:=h.old hs
    omega
   ·rw [if_neg hj2]
    congr 1
    rw [List.mem_append]
    simp [hj2]
  ·show (t.stack.map fun c=>((c:Nat):Int)).take s.stack.length=_
   rw [hst,List.map_append,List.take_left' (by simp)]
  ·show x'.next=_
   rw [k5];exact hA.next
  ·exact h.pop hall hlow hst (fun v hv=>if_pos hv) (fun v hv=>if_neg hv) h4 h5
 ·rw [qaj (by simp only [bne_iff_ne,ne_eq];exact fun e=>hlow (qh5 e))]
  exact ⟨x,l,t,rfl,hg,hA,h.keep hall hlow⟩
theorem qpq {fu n N:Nat} {g:GGraph} (hN:qns g N) (hfu:N+40≤fu) (hV:VOk g fu n) {s:Srch} {G:List Nat} {m:Nat} (hm:m<32) (hwh:wh s.mark≤n+1) : ∀ (q r k:Nat) (x:GSearch) (l:List Int) (t:Srch),(qa8 g m).length=k+r→r<q→x.g=g→Abs x l t →
  LI (DE g) s G m t (fun d=>d<32∧(d:Int)∈(qa8 g m).take k) → ∃ x' l' t',qeb fu m (qhr fu n) (qa8 g m) q x l k=some (x',l')∧x'.g=g∧Abs x' l' t'∧Post (DE g) s t' m G
 | 0,r,k,x,l,t,_,h,_,_,_=>absurd h (by omega)
 | q+1,0,k,x,l,t,hk,_,hg,hA,hL=>q18 (by omega) hm hg hA hL (fun d hd=>⟨hd.2.2,by rw [List.take_of_length_le (by omega)];exact hd.2.1⟩) (by omega)
 | q+1,r+1,k,x,l,t,hk,hq,hg,hA,hL=>by
  have hlt:k<(qa8 g m).length:=by omega
  have hlen:=(hN m).2
  have ih:=fun x l t h1 h2 h3=>qpq (s:=s) (G:=G) hN hfu hV hm hwh q r (k+1) x l t (by omega) (by omega) h1 h2 h3
  have htake:(qa8 g m).take (k+1)=(qa8 g m).take k++[(qa8 g m)[k]]:=List.take_succ_eq_append_getElem hlt
  have hmem:(qa8 g m)[k]∈qa8 g m:=List.getElem_mem _
  rw [qeb,qaj (qaf (by omega)),qbm,List.getElem?_eq_getElem hlt,qaa]
  simp only [qlg,qhq,wrs k (by omega)]
  rw [htake] at ih
  generalize (qa8 g m)[k]=y at ih hmem ⊢
  rcases qhe y with ⟨d,hd,rfl⟩ | hy
  ·have hset : ∀ v:Nat,(v<32∧(v:Int)∈(qa8 g m).take k++[(d:Int)])→((v<32∧(v:Int)∈(qa8 g m).take k)∨v=d):=fun v ⟨h1,h2⟩=>by
    rcases List.mem_append.1 h2 with h3 | h3
    ·exact .inl ⟨h1,h3⟩
    ·exact .inr (qh5 (by simpa using h3))
   have hE:DE g m d:=⟨hm,hmem,hd⟩
   rw [qad (qae (by omega)),qad (qae (by omega)),qa4 (by omega) (by omega),qaa,qzm hd,qaa,hA.mark d hd]
   by_cases h0:t.mark d=0
   ·rw [qaj (by simp [h0])]
    have hmm:m∈t.stack:=by obtain ⟨new,hst,_⟩:=hL.stack;rw [hst];simp
    have hw2:wh t.mark≤n:=by
     have h1:=qsg (x:=1) hm hL.white (by omega)
     have h2:wh t.mark≤wh (qj9 s.mark m 1):=q6q fun v hv=>by
      by_cases e:v=m
      ·subst e;rw [hL.nmark];omega
      ·rw [qcz _ _ e] at hv
       rw [hL.ext.mark_old v hv];exact hv
     omega
    obtain ⟨x',l',t',h1,h2,h3,h4⟩:=hV x l t (m::G) d hg hA hL.inv h0 hd (fun a ha=>by
     rcases List.mem_cons.1 ha with rfl | ha
     ·exact Path.one hE
     ·have h5:=hL.old (hL.was.gray a ha)
      exact (hL.inv.reach a (List.mem_cons_of_mem _ ha) m hmm (by omega)).tail hE) hw2
    rw [h1,qaa]
    simp only
    simp only [qa4 (show (0:Int)≤(m:Int) by omega) (show (m:Int)<32 by omega),qzm hm,qzm hd,qgw hm,qaa]
    have hL2:=(hL.visit h0 hE h4).sub hset
    refine ih _ _ { t' with low:=qj9 t'.low m (min (t'.low m) (t'.low d)) } h2 ⟨h3.mark,fun j hj => ?_,h3.ring,h3.on,h3.stack,h3.next⟩ hL2
    show iat (x'.low.set m _) j=((qj9 t'.low m (min (t'.low m) (t'.low d)) j:Nat):Int)
    rw [qpm hm,h3.low m hm,h3.low d hd]
    by_cases e:m=j
    ·subst e
     rw [if_pos rfl,qdl]
     by_cases h:t'.low m≤t'.low d
     ·rw [Nat.min_eq_left h,Int.min_eq_left (by omega)]
     ·rw [Nat.min_eq_right (by omega),Int.min_eq_right (by omega)]
    ·rw [if_neg e,qcz _ _ (fun h=>e h.symm)]
     exact h3.low j hj
   ·rw [qad (by simp;omega),qaa,qwo hd,qaa,hA.on d hd]
    by_cases hs:d∈t.stack
    ·rw [qaj (qaf hs)]
     simp only [qa4 (show (0:Int)≤(m:Int) by omega) (show (m:Int)<32 by omega),qzm hm,qgw hm,qaa]
     have hL2:=(hL.on hs hE).sub hset
     refine ih _ _ { t with low:=qj9 t.low m (min (t.low m) (t.mark d)) } hg ⟨hA.mark,fun j hj => ?_,hA.ring,hA.on,hA.stack,hA.next⟩ hL2
     show iat (x.low.set m _) j=((qj9 t.low m (min (t.low m) (t.mark d)) j:Nat):Int)
     rw [qpm hm,hA.low m hm]
     by_cases e:m=j
     ·subst e
      rw [if_pos rfl,qdl]
      by_cases h:t.low m≤t.mark d
      ·rw [Nat.min_eq_left h,Int.min_eq_left (by omega)]
      ·rw [Nat.min_eq_right (by omega),Int.min_eq_right (by omega)]
     ·rw [if_neg e,qcz _ _ (fun h=>e h.symm)]
      exact hA.low j hj
    ·rw [qad (qae hs)]
     exact ih _ _ _ hg hA ((hL.skip (by omega) hs).sub hset)
  ·have hset : ∀ v:Nat,(v<32∧(v:Int)∈(qa8 g m).take k++[y])→(v<32∧(v:Int)∈(qa8 g m).take k):=fun v ⟨h1,h2⟩=>by
    rcases List.mem_append.1 h2 with h3 | h3
    ·exact ⟨h1,h3⟩
    ·have:(v:Int)=y:=by simpa using h3
     exact absurd (show 0≤y∧y<32 by omega) hy
   have:=ih x l t hg hA (hL.sub hset)
   by_cases h0:y<0
   ·rw [qaj (qaf h0)];exact this
   ·rw [qad (qae h0),qaj (qaf (by omega))];exact this
theorem qnb {fu N:Nat} {g:GGraph} (hN:qns g N) (hfu:N+40≤fu) : ∀ n,VOk g fu n
 | 0=>fun x l t G m _ _ _ h0 hm _ hw=>by
  have:=qsg (x:=1) hm h0 (by omega)
  omega
 | n+1=>fun x l t G m hg hA hI h0 hm hG hw=>by
  have hc:=hI.cnt
  have hw1:=qsg (x:=1) hm h0 (by omega)
  have hn:IntKind.wrap .i64 (x.next+1)=((t.next+1:Nat):Int):=by rw [hA.next,qds (by omega) (by omega)];omega
  have hsl:=qul hI
  have hll:l.length=t.stack.length:=by rw [hA.stack];simp
  have hin:inR (m:Int) 32=some ():=qa4 (by omega) (by omega)
  have happ:app l [(m:Int)]=some (l++[(m:Int)]):=qbx (a:=l) (b:=[(m:Int)]) (qpj (show l.length≤100 by omega))
  rw [qhr]
  simp only [qaa,hin,qzm hm,hn,qgw hm,happ,qwo hm]
  rw [hg,q9t hm,qaa]
  have hL:=LI.start hI hm h0 hG
  refine qpq hN hfu (qnb hN hfu n) hm hw fu (qa8 g m).length 0 _ _ (qui t m) (by omega) (by have:=(hN m).1;omega) rfl ⟨fun j hj => ?_,fun j hj => ?_,hA.ring,fun j hj => ?_,?_,rfl⟩ (hL.sub fun d hd=>by simp at hd)
  ·show iat (x.mark_.set m _) j=((qj9 t.mark m (t.next+1) j:Nat):Int)
   rw [qpm hm]
   by_cases e:m=j
   ·subst e;rw [if_pos rfl,qdl]
   ·rw [if_neg e,qcz _ _ (fun h=>e h.symm)];exact hA.mark j hj
  ·show iat (x.low.set m _) j=((qj9 t.low m (t.next+1) j:Nat):Int)
   rw [qpm hm]
   by_cases e:m=j
   ·subst e;rw [if_pos rfl,qdl]
   ·rw [if_neg e,qcz _ _ (fun h=>e h.symm)];exact hA.low j hj
  ·show bat (x.on_.set m true) j=decide (j∈t.stack++[m])
   rw [qge hm,hA.on j hj]
   by_cases e:m=j
   ·subst e;simp
   ·have e2 : ¬ j=m:=fun h=>e h.symm
    simp [e,e2]
  ·show l++[(m:Int)]=(t.stack++[m]).map _
   rw [hA.stack];simp
theorem q19 {fu N:Nat} {g:GGraph} (hN:qns g N) (hfu:N+40≤fu) {m:Nat} (hm:m<32) : ∃ x' l',q1n fu { g:=g,mark_:=Zr.zd,low:=Zr.zd,on_:=Zr.zd,stack:=Zr.zd,ring:=Zr.zd,next:=Zr.zd } [] m=some (x',l')∧x'.g=g ∧
  (∀ k,k<32→(0<iat x'.mark_ k↔Path (DE g) m k))∧(∀ k,k<32→0≤iat x'.mark_ k) ∧ ∀ k,k<32→Path (DE g) m k → ∃ r:Nat,iat x'.ring k=r∧qsf (DE g) k r:=by
 let t0:Srch:=⟨fun _=>0,fun _=>0,fun _=>0,[],0⟩
 have hI:Inv (DE g) t0 []:=Inv.empty (fun _=>rfl) rfl rfl
 have hw:wh t0.mark≤fu:=by have:=hI.cnt;omega
 obtain ⟨x',l',t',h1,h2,h3,h4⟩:=qnb hN hfu fu { g:=g,mark_:=Zr.zd,low:=Zr.zd,on_:=Zr.zd,stack:=Zr.zd,ring:=Zr.zd,next:=Zr.zd } [] t0 [] m rfl
  ⟨fun k _=>qsj k,fun k _=>qsj k,fun k _=>qsj k,fun k _=>by rw [qn7];rfl,rfl,rfl⟩ hI rfl hm (by simp) hw
 obtain ⟨h5,h6⟩:=h4.final fun _=>rfl
 refine ⟨x',l',h1,h2,fun k hk => ?_,fun k hk => ?_,fun k hk hp=>⟨t'.ring k,h3.ring k hk,h6 k hp⟩⟩
 ·rw [h3.mark k hk,← h5 k];omega
 ·rw [h3.mark k hk];omega
end Go.Proofs.Yteilffoclpgijaa
namespace Go.Proofs.Yteilffoclpgijaa
open Go.RowKit
open Rep (rep)
open Classical in
noncomputable def qa2 (g:GGraph) (a b:Nat):Bool:=decide (Path (Edge g) a b)
theorem pathB_iff {g:GGraph} {a b:Nat}:qa2 g a b=true↔Path (Edge g) a b:=by simp [qa2]
theorem qdm (g:GGraph):Pre (qa2 g) :=
 ⟨fun a _=>pathB_iff.2 (.refl a),fun a b c h1 h2=>pathB_iff.2 ((pathB_iff.1 h1).trans (pathB_iff.1 h2)),fun a b ha h=>qsi (pathB_iff.1 h) ha⟩
noncomputable def qx4 (g:GGraph) (x:Int):List Int:=if qeg g x=true then (qkb (qa2 g) x.toNat).map (fun k=>((k:Nat):Int)) else []
def qcs (l:List Nat):List Int:=l.map fun k=>((k:Nat):Int)
theorem qly (l:List Nat):(qcs l).length=l.length:=by simp [qcs]
theorem qzn (l:List Nat) (k:Nat):qcs l++[(k:Int)]=qcs (l++[k]):=by simp [qcs]
theorem qpr {l:List Nat} {k:Nat}:(k:Int)∈qcs l↔k∈l:=by
 unfold qcs
 rw [List.mem_map]
 constructor
 ·rintro ⟨a,ha,e⟩
  have:a=k:=qh5 e
  subst this;exact ha
 ·exact fun h=>⟨k,h,rfl⟩
theorem qzo {l:List Nat} {k:Nat}:qcp (qcs l) (k:Int)=decide (k∈l):=by
 rw [Bool.eq_iff_iff,decide_eq_true_eq,← qpr]
 unfold qcp
 simp
structure Rings (g:GGraph) (n:Nat) (x:GSearch):Prop where
 same:x.g=g
 known : ∀ k,qa2 g n k=true→bat g.known k=true
 mark : ∀ k,k<32→(0<iat x.mark_ k↔qa2 g n k=true)
 nonneg : ∀ k,k<32→0≤iat x.mark_ k
 ring : ∀ k,k<32→qa2 g n k=true → ∃ r:Nat,iat x.ring k=r∧qsf (Edge g) k r
theorem qgf {g:GGraph} {n:Nat} (hk : ∀ k,qa2 g n k=true→bat g.known k=true) {a b:Nat} (ha:qa2 g n a=true):Path (DE g) a b↔Path (Edge g) a b:=by
 constructor
 ·intro h
  induction h with
  | refl=>exact .refl _
  | tail _ e ih=>exact ih.tail ⟨e.1,hk _ (pathB_iff.2 ((pathB_iff.1 ha).trans ih)),e.2.1,e.2.2⟩
 ·intro h
  induction h with
  | refl=>exact .refl _
  | tail _ e ih=>exact ih.tail ⟨e.1,e.2.2.1,e.2.2.2⟩
theorem qmt {E:Nat→Nat→Prop} {u v r q:Nat} (hr:qsf E u r) (hq:qsf E v q) (h1:Path E u v) (h2:Path E v u):r=q:=by
 have a:=hr.2.2 q (h1.trans hq.1) (hq.2.1.trans h2)
 have b:=hq.2.2 r (h2.trans hr.1) (hr.2.1.trans h1)
 omega
section
variable {g:GGraph} {n:Nat} {x:GSearch} {out:List Nat} {placed:Vector Bool 32}
theorem Rings.least (h:Rings g n x) (hn:n<32) {k:Nat} (hk:qa2 g n k=true) {r:Nat} (hr:iat x.ring k=r):qsf (Edge g) k r:=by
 obtain ⟨q,h1,h2⟩:=h.ring k (qsi (pathB_iff.1 hk) hn) hk
 rw [hr] at h1
 rw [qh5 h1];exact h2
def zbk (g:GGraph) (x:GSearch) (y:Int) (placed:Vector Bool 32) (k:Nat):Prop := ∀ m,k≤m→m<32→iat x.mark_ m≠0→iat x.ring m=y → ∀ d:Nat,d<32→(d:Int)∈qa8 g m→iat x.ring d≠y→bat placed d=true
theorem qrc {y9:Int} {y:Int} {rec:Int→Option Bool} {ds:List Int} (hds:ds.length≤17592186043904) : ∀ (q r k:Nat),ds.length=k+r→r<q →
  (qc5 x y placed y9 rec ds q k=rec (IntKind.wrap .i64 (y9+1)) ∧ ∀ d:Nat,d<32→(d:Int)∈ds.drop k→iat x.ring d≠y→bat placed d=true) ∨
  (qc5 x y placed y9 rec ds q k=some false ∧ ∃ d:Nat,d<32∧(d:Int)∈ds.drop k∧iat x.ring d≠y∧bat placed d=false)
 | 0,r,k,_,h=>absurd h (by omega)
 | q+1,0,k,hk,_=>by
  left
  refine ⟨by rw [qc5,qad (qae (by omega))];rfl,fun d _ hm => ?_⟩
  rw [List.drop_of_length_le (by omega)] at hm;simp at hm
 | q+1,r+1,k,hk,hq=>by
  have hlt:k<ds.length:=by omega
  have ih:=qrc (y9:=y9) (y:=y) (rec:=rec) hds q r (k+1) (by omega) (by omega)
  rw [qc5,qaj (qaf (by omega)),qbm,List.getElem?_eq_getElem hlt,qaa,qx3 hlt]
  simp only [qkt,qr7,wrs k (by omega)]
  generalize ds[k]=z
  have more:(∀ d:Nat,d<32→z=(d:Int)→iat x.ring d≠y→bat placed d=true) →
    (qc5 x y placed y9 rec ds q ((k+1:Nat):Int)=rec (IntKind.wrap .i64 (y9+1)) ∧ ∀ d:Nat,d<32→(d:Int)∈z::ds.drop (k+1)→iat x.ring d≠y→bat placed d=true) ∨
    (qc5 x y placed y9 rec ds q ((k+1:Nat):Int)=some false ∧ ∃ d:Nat,d<32∧(d:Int)∈z::ds.drop (k+1)∧iat x.ring d≠y∧bat placed d=false):=fun hz=>by
   rcases ih with ⟨h1,h2⟩ | ⟨h1,d,h2,h3,h4,h5⟩
   ·refine .inl ⟨h1,fun d hd hm hr => ?_⟩
    rcases List.mem_cons.1 hm with e | hm
    ·exact hz d hd e.symm hr
    ·exact h2 d hd hm hr
   ·exact .inr ⟨h1,d,h2,List.mem_cons_of_mem _ h3,h4,h5⟩
  rcases qhe z with ⟨d,hd,rfl⟩ | hz
  ·rw [qaj (qaf (by omega)),qaj (qaf (by omega)),qa4 (by omega) (by omega),qaa,qzm hd,qaa]
   by_cases hr:iat x.ring d=y
   ·rw [qad (by simp [hr])]
    exact more fun c _ e hne=>by
     have:d=c:=qh5 e
     subst this
     exact absurd hr hne
   ·rw [qaj (by simp [hr]),qaa,qwo hd,qaa]
    cases hp:bat placed d with
    | true =>
     exact more fun c _ e _=>by
      have:d=c:=qh5 e
      subst this
      exact hp
    | false=>exact .inr ⟨rfl,d,hd,List.mem_cons_self,hr,hp⟩
  ·have:=more fun d hd e _=>absurd (show 0≤z∧z<32 by omega) hz
   by_cases h0:z≥0
   ·rw [qaj (qaf h0),qad (qae (by omega))];exact this
   ·rw [qad (qae h0)];exact this
theorem qrd {fu N:Nat} (hN:qns g N) (hfu:N≤fu) (hg:x.g=g) {y:Int} : ∀ (q r k:Nat),k+r=32→r<q → ∃ b,qem fu x y placed q k=some b∧(b=true↔zbk g x y placed k)
 | 0,r,k,_,h=>absurd h (by omega)
 | q+1,0,k,hk,_=>⟨true,by rw [qem,qad (qae (by omega))],by simp only [true_iff];intro m h1 h2;omega⟩
 | q+1,r+1,k,hk,hq=>by
  have hk32:k<32:=by omega
  obtain ⟨b,h1,h2⟩:=qrd hN hfu hg q r (k+1) (by omega) (by omega)
  have step:(iat x.mark_ k≠0→iat x.ring k=y → ∀ d:Nat,d<32→(d:Int)∈qa8 g k→iat x.ring d≠y→bat placed d=true)→(b=true↔zbk g x y placed k):=fun hs=>by
   rw [h2]
   constructor
   ·intro h m hm
    by_cases e:m=k
    ·subst e;intro _;exact hs
    ·exact h m (by omega)
   ·intro h m hm
    exact h m (by omega)
  rw [qem,qaj (qaf (by omega)),qa4 (by omega) (by omega),qaa,qzm hk32,qaa]
  simp only [qo2,qo1,wrs k (by omega)]
  by_cases h0:iat x.mark_ k=0
  ·rw [qaj (by simp [h0])]
   exact ⟨b,h1,step fun h=>absurd h0 h⟩
  ·rw [qad (by simp [h0]),qaa,qzm hk32,qaa]
   by_cases hr:iat x.ring k=y
   ·rw [qad (by simp [hr]),qr8,qa4 (by omega) (by omega),qaa,hg,q9t hk32,qaa]
    have:=qrc (x:=x) (placed:=placed) (y9:=(k:Int)) (y:=y) (rec:=qem fu x y placed q) (hN k).2 fu (qa8 g k).length 0 (by omega) (by have:=(hN k).1;omega)
    rw [List.drop_zero,wrs k (by omega)] at this
    rcases this with ⟨h3,h4⟩ | ⟨h3,d,hd,h4,h5,h6⟩
    ·have h3:qc5 x y placed (k:Int) (qem fu x y placed q) (qa8 g k) fu 0=_:=h3
     exact ⟨b,by rw [h3];exact h1,step fun _ _=>h4⟩
    ·have h3:qc5 x y placed (k:Int) (qem fu x y placed q) (qa8 g k) fu 0=_:=h3
     refine ⟨false,h3,?_⟩
     simp only [Bool.false_eq_true,false_iff]
     intro hf
     have:=hf k (Nat.le_refl _) hk32 h0 hr d hd h4 h5
     rw [h6] at this;cases this
   ·rw [qaj (by simp [hr])]
    exact ⟨b,h1,step fun _ h=>absurd h hr⟩
def Test (g:GGraph) (n:Nat) (x:GSearch) (out:List Nat) (placed:Vector Bool 32) (y:Nat):Prop:=qa2 g n y=true∧y∉out∧iat x.ring y=(y:Int)∧zbk g x y placed 0
theorem Test.cand (hR:Rings g n x) (hn:n<32) (hO:OKO (qa2 g) n out) (hP : ∀ k,k<32→bat placed k=decide (k∈out)) {y:Nat} (h:Test g n x out placed y):qph (qa2 g) n out y=true:=by
 obtain ⟨h1,h2,h3,h4⟩:=h
 have hpre:=qdm g
 have hy32:=hpre.lt _ _ hn h1
 rw [candO_iff]
 refine ⟨h1,h2,fun d hd hyd => ?_⟩
 have hcl : ∀ a b,((qa2 g y a=true∧qa2 g a y=true)∨a∈out)→Edge g a b→((qa2 g y b=true∧qa2 g b y=true)∨b∈out):=by
  intro a b ha hab
  rcases ha with ⟨ha1,ha2⟩ | ha
  ·have hyb:=hpre.trans _ _ _ ha1 (pathB_iff.2 (Path.one hab))
   cases hby:qa2 g b y with
   | true=>exact .inl ⟨hyb,rfl⟩
   | false =>
    right
    have hna:=hpre.trans _ _ _ h1 ha1
    have ha32:=hpre.lt _ _ hn hna
    obtain ⟨r,hr1,hr2⟩:=hR.ring a ha32 hna
    have hra:iat x.ring a=(y:Int):=by
     rw [hr1,qmt hr2 (hR.least hn h1 h3) (pathB_iff.1 ha2) (pathB_iff.1 ha1)]
    have hma:iat x.mark_ a≠0:=by have:=(hR.mark a ha32).2 hna;omega
    have hnb:=hpre.trans _ _ _ h1 hyb
    have hrb:iat x.ring b≠(y:Int):=fun e=>by
     have:=(hR.least hn hnb e).1
     rw [pathB_iff.2 this] at hby;cases hby
    have:=h4 a (Nat.zero_le _) ha32 hma hra b hab.2.2.2 hab.2.2.1 hrb
    rw [hP b hab.2.2.2] at this
    simpa using this
  ·exact .inr (hO.dc a ha b (pathB_iff.2 (Path.one hab)))
 have:=Path.closed (S:=fun a=>(qa2 g y a=true∧qa2 g a y=true)∨a∈out) hcl (pathB_iff.1 hyd) (.inl ⟨hpre.refl y hy32,hpre.refl y hy32⟩)
 rcases this with h5 | h5
 ·exact .inl h5.2
 ·exact .inr h5
theorem Test.of_next (hR:Rings g n x) (hn:n<32) (hO:OKO (qa2 g) n out) (hP : ∀ k,k<32→bat placed k=decide (k∈out)) {c:Nat} (h:qh4 (qa2 g) n out=some c):Test g n x out placed c:=by
 have hpre:=qdm g
 obtain ⟨hc32,hcand,hmin⟩:=qew h
 have hcand':=candO_iff.1 hcand
 obtain ⟨h1,h2,h3⟩:=hcand'
 obtain ⟨r,hr1,hr2⟩:=hR.ring c hc32 h1
 have hcr:qa2 g c r=true:=pathB_iff.2 hr2.1
 have hrc:qa2 g r c=true:=pathB_iff.2 hr2.2.1
 have hrle:r≤c:=hr2.2.2 c (.refl _) (.refl _)
 have hr:r=c:=by
  rcases Nat.lt_or_ge r c with hlt | hge
  ·have hno:=hmin r hlt
   have hy:qph (qa2 g) n out r=true:=by
    rw [candO_iff]
    refine ⟨hpre.trans _ _ _ h1 hcr,fun hro=>h2 (hO.dc r hro c hrc),fun d hd hrd => ?_⟩
    ·rcases h3 d hd (hpre.trans _ _ _ hcr hrd) with h4 | h4
     ·exact .inl (hpre.trans _ _ _ h4 hcr)
     ·exact .inr h4
   rw [hy] at hno;cases hno
  ·omega
 subst hr
 refine ⟨h1,h2,hr1,fun a _ ha32 hma hra d hd hmd hrd => ?_⟩
 have hna:=(hR.mark a ha32).1 (by have:=hR.nonneg a ha32;omega)
 have hl:=hR.least hn hna hra
 have had:qa2 g a d=true:=pathB_iff.2 (Path.one ⟨ha32,hR.known a hna,hmd,hd⟩)
 have hcd:=hpre.trans _ _ _ (pathB_iff.2 hl.2.1) had
 rw [hP d hd]
 rcases h3 d hd hcd with h4 | h4
 ·exfalso
  have hnd:=hpre.trans _ _ _ h1 hcd
  obtain ⟨q,hq1,hq2⟩:=hR.ring d hd hnd
  refine hrd ?_
  rw [hq1,qmt hq2 hr2 (pathB_iff.1 h4) (pathB_iff.1 hcd)]
 ·exact qaf h4
def optI:Option Nat→Int
 | some a=>a
 | none => -1
def qn9 (placed:Vector Bool 32) (out:List Nat):Prop := ∀ k,k<32→bat placed k=decide (k∈out)
theorem q4s (hR:Rings g n x) (hn:n<32) {c:Nat} (hc:qa2 g n c=true) (hrc:iat x.ring c=(c:Int)) {k:Nat} (hk:k<32):(0<iat x.mark_ k∧iat x.ring k=(c:Int))↔(qa2 g c k=true∧qa2 g k c=true):=by
 have hpre:=qdm g
 constructor
 ·rintro ⟨h1,h2⟩
  have hl:=hR.least hn ((hR.mark k hk).1 h1) h2
  exact ⟨pathB_iff.2 hl.2.1,pathB_iff.2 hl.1⟩
 ·rintro ⟨h1,h2⟩
  have hnk:=hpre.trans _ _ _ hc h1
  refine ⟨(hR.mark k hk).2 hnk,?_⟩
  obtain ⟨r,hr1,hr2⟩:=hR.ring k hk hnk
  rw [hr1,qmt hr2 (hR.least hn hc hrc) (pathB_iff.1 h2) (pathB_iff.1 h1)]
theorem qnc {rec:Vector Bool 32→GSearch→List Int→Option (List Int)} (hR:Rings g n x) (hn:n<32) {c:Nat} (hc:qa2 g n c=true) (hrc:iat x.ring c=(c:Int)) : ∀ (q r k:Nat) (placed:Vector Bool 32) (o:List Nat),k+r=32→r<q→o.length≤k+32 →
  qn9 placed o → ∃ placed',qcw rec x (c:Int) q placed (qcs o) k=rec placed' x (qcs (o++((List.range 32).drop k).filter fun m=>qa2 g c m&&qa2 g m c))∧qn9 placed' (o++((List.range 32).drop k).filter fun m=>qa2 g c m&&qa2 g m c)
 | 0,r,k,placed,o,_,h,_,_=>absurd h (by omega)
 | q+1,0,k,placed,o,hk,_,_,hP=>⟨placed,by
   rw [qcw,qad (qae (by omega)),List.drop_of_length_le (by simp;omega),List.filter_nil,List.append_nil],by
   rw [List.drop_of_length_le (by simp;omega),List.filter_nil,List.append_nil];exact hP⟩
 | q+1,r+1,k,placed,o,hk,hq,ho,hP=>by
  have hk32:k<32:=by omega
  have ih:=fun placed o h1 h2=>qnc (rec:=rec) hR hn hc hrc q r (k+1) placed o (by omega) (by omega) h1 h2
  have hmem:=q4s hR hn hc hrc hk32
  have hdrop:(List.range 32).drop k=k::(List.range 32).drop (k+1):=by
   rw [List.drop_eq_getElem_cons (by simp;omega)]
   simp
  rw [qcw,qaj (qaf (by omega)),hdrop,List.filter_cons]
  simp only [qa4 (show (0:Int)≤(k:Int) by omega) (show (k:Int)<32 by omega),qaa,qzm hk32,qix,qiw,wrs k (by omega)]
  have hno : ¬ (0<iat x.mark_ k∧iat x.ring k=(c:Int))→(qa2 g c k&&qa2 g k c)=false:=fun h=>by
   cases h1:(qa2 g c k&&qa2 g k c) with
   | false=>rfl
   | true=>exact absurd (hmem.2 (by simpa using h1)) h
  by_cases h1:0<iat x.mark_ k
  ·rw [qaj (qaf h1)]
   by_cases h2:iat x.ring k=(c:Int)
   ·have h3:=hmem.1 ⟨h1,h2⟩
    rw [qaj (by simp [h2]),qwo hk32]
    simp only [qaa,qgw hk32]
    rw [qbx (a:=qcs o) (b:=[(k:Int)]) (qpj (show (qcs o).length≤100 by rw [qly];omega)),qaa,qzn,h3.1,h3.2]
    obtain ⟨p',e1,e2⟩:=ih (placed.set k true) (o++[k]) (by simp;omega) (fun j hj=>by
     rw [qge hk32,hP j hj]
     by_cases e:k=j
     ·subst e;simp
     ·have e2 : ¬ j=k:=fun h=>e h.symm
      simp [e,e2])
    refine ⟨p',?_,?_⟩
    ·rw [e1];simp
    ·simpa using e2
   ·rw [qad (by simp [h2]),hno (fun h=>h2 h.2)]
    exact ih placed o (by omega) hP
  ·rw [qad (qae h1),qad rfl,hno (fun h=>h1 h.1)]
   exact ih placed o (by omega) hP
theorem qnd {fu N:Nat} (hN:qns g N) (hfu:N+40≤fu) {rec:Vector Bool 32→GSearch→List Int→Option (List Int)} (hR:Rings g n x) (hn:n<32) (hO:OKO (qa2 g) n out) (hP:qn9 placed out) : ∀ (q r k:Nat),k+r=32→r<q→(∀ j,j<k→qph (qa2 g) n out j=true→qh4 (qa2 g) n out≠some j) →
  qcj fu placed (qcs out) rec q x (-1) k=qg2 fu placed (qcs out) rec x (optI (qh4 (qa2 g) n out))
 | 0,r,k,_,h,_=>absurd h (by omega)
 | q+1,0,k,hk,_,hno=>by
  rw [qcj,qad (qae (by omega))]
  cases hc:qh4 (qa2 g) n out with
  | none=>rfl
  | some c =>
   have:=qew hc
   exact absurd hc (hno c (by omega) this.2.1)
 | q+1,r+1,k,hk,hq,hno=>by
  have hk32:k<32:=by omega
  have ih:=fun h=>qnd hN hfu (rec:=rec) hR hn hO hP q r (k+1) (by omega) (by omega) h
  have step : ¬ Test g n x out placed k→(∀ j,j<k+1→qph (qa2 g) n out j=true→qh4 (qa2 g) n out≠some j):=fun ht j hj hcj he=>by
   by_cases e:j=k
   ·subst e
    exact ht (Test.of_next hR hn hO hP he)
   ·exact hno j (by omega) hcj he
  rw [qcj,qaj (qaf (by omega))]
  simp only [qa4 (show (0:Int)≤(k:Int) by omega) (show (k:Int)<32 by omega),qaa,qzm hk32,qwo hk32,qf6,qlh,wrs k (by omega)]
  by_cases h1:0<iat x.mark_ k
  ·have hnk:=(hR.mark k hk32).1 h1
   rw [qaj (qaf h1),hP k hk32]
   by_cases h2:k∈out
   ·rw [qaf h2,qad (c := !true) rfl]
    exact ih (step fun ht=>ht.2.1 h2)
   ·rw [qae h2,qaj (c := !false) rfl]
    by_cases h3:iat x.ring k=(k:Int)
    ·rw [qaj (by simp [h3])]
     obtain ⟨b,h4,h5⟩:=qrd (placed:=placed) hN (show N≤fu by omega) hR.same (y:=(k:Int)) fu 32 0 (by omega) (by omega)
     have h4:q4e fu x (k:Int) placed=some b:=h4
     rw [h4,qaa]
     cases hb:b with
     | true =>
      rw [qaj rfl]
      have ht:Test g n x out placed k:=⟨hnk,h2,h3,h5.1 hb⟩
      have hcand:=ht.cand hR hn hO hP
      have hnext:qh4 (qa2 g) n out=some k:=by
       cases hc:qh4 (qa2 g) n out with
       | none=>rw [nextO_none.1 hc k hk32] at hcand;cases hcand
       | some c =>
        obtain ⟨c1,c2,c3⟩:=qew hc
        rcases Nat.lt_trichotomy c k with h | h | h
        ·exact absurd hc (hno c h c2)
        ·rw [h]
        ·rw [c3 k h] at hcand;cases hcand
      rw [hnext];rfl
     | false =>
      rw [qad rfl]
      refine ih (step fun ht => ?_)
      rw [h5.2 ht.2.2.2] at hb
      cases hb
    ·rw [qad (by simp [h3]),qad rfl]
     exact ih (step fun ht=>h3 ht.2.2.1)
  ·rw [qad (qae h1),qad rfl]
   exact ih (step fun ht=>h1 ((hR.mark k hk32).2 ht.1))
theorem qne {fu N:Nat} (hN:qns g N) (hfu:N+40≤fu) (hR:Rings g n x) (hn:n<32) : ∀ (q k:Nat) (out:List Nat) (placed:Vector Bool 32),OKO (qa2 g) n out→qn9 placed out→k<q→32≤k+out.length →
  qck fu q placed x (qcs out)=some (qcs (qka (qa2 g) n k out))
 | 0,k,out,placed,_,_,h,_=>absurd h (by omega)
 | q+1,k,out,placed,hO,hP,hq,hk=>by
  have hpre:=qdm g
  have h3:=qnd hN hfu (rec:=qck fu q) hR hn hO hP fu 32 0 (by omega) (by omega) (fun j hj=>absurd hj (by omega))
  have h3:qcj fu placed (qcs out) (qck fu q) fu x (-1) 0=_:=h3
  rw [qck,h3,qg2]
  cases hc:qh4 (qa2 g) n out with
  | none =>
   rw [qaj (by rfl)]
   cases k with
   | zero=>rfl
   | succ k=>simp [qka,hc]
  | some c =>
   obtain ⟨hc32,hcand,_⟩:=qew hc
   have ht:=Test.of_next hR hn hO hP hc
   have hle:=hO.len
   show (bif decide ((c:Int)<0) then _ else _)=_
   rw [qad (qae (by omega))]
   obtain ⟨p',e1,e2⟩:=qnc (rec:=qck fu q) hR hn ht.1 ht.2.2.1 fu 32 0 placed out (by omega) (by omega) (by omega) hP
   have e1:qcw (qck fu q) x (c:Int) fu placed (qcs out) 0=_:=e1
   show qcw (qck fu q) x (c:Int) fu placed (qcs out) 0=_
   rw [e1]
   rw [List.drop_zero] at e2 ⊢
   have hstep:=hO.step hpre hn hc
   have hlen:=List.length_pos_of_mem (qrb hpre hc32)
   cases k with
   | zero=>rw [hO.full (by omega)] at hc;cases hc
   | succ k =>
    have:=qne hN hfu hR hn q k (out++quj (qa2 g) c) p' hstep e2 (by omega) (by rw [List.length_append];omega)
    rw [qka,hc]
    exact this
end
theorem qnf {g:GGraph} {s:Nat} (hs:s<32) (h:qeg g (s:Int)=true) : ∀ k,qa2 g s k=true→bat g.known k=true:=by
 intro k hk
 have h1:=(readyZ_iff.1 h).2 k (Nat.zero_le _) (qsi (pathB_iff.1 hk) hs)
 refine h1 ?_
 unfold qna
 rw [if_pos (by omega)]
 exact (qms (qsi (pathB_iff.1 hk) hs)).2 (pathB_iff.1 hk)
theorem qzp {fu N:Nat} {g:GGraph} (hN:qns g N) (hfu:N+80≤fu) (x:Int):qo3 fu g x=some (qx4 g x):=by
 unfold qo3 qx4
 rw [q16 hN (by omega),qaa]
 cases hr:qeg g x with
 | false=>rw [qaj (c := !false) rfl,if_neg (by simp)]
 | true =>
  rw [qad (c := !true) rfl,if_pos rfl,qaa]
  obtain ⟨hx,_⟩:=readyZ_iff.1 hr
  obtain ⟨s,hs,rfl⟩ : ∃ s:Nat,s<32∧x=s:=⟨x.toNat,by omega,by omega⟩
  have hkn:=qnf hs hr
  obtain ⟨x',l',h1,h2,h3,h4,h5⟩:=q19 hN (show N+40≤fu by omega) hs
  rw [h1,qaa]
  have hself:qa2 g s s=true:=(qdm g).refl s hs
  have hR:Rings g s x':=⟨h2,hkn,fun k hk=>by rw [h3 k hk,qgf hkn hself,pathB_iff],h4,fun k hk hp=>by
   obtain ⟨r,e1,e2,e3,e4⟩:=h5 k hk ((qgf hkn hself).2 (pathB_iff.1 hp))
   have hnr:qa2 g s r=true:=pathB_iff.2 ((pathB_iff.1 hp).trans ((qgf hkn hp).1 e2))
   refine ⟨r,e1,(qgf hkn hp).1 e2,(qgf hkn hnr).1 e3,fun w hw1 hw2=>e4 w ((qgf hkn hp).2 hw1) ?_⟩
   exact (qgf hkn (pathB_iff.2 ((pathB_iff.1 hp).trans hw1))).2 hw2⟩
  exact qne hN (by omega) hR hs fu 32 [] (Zr.zd:Vector Bool 32) OKO.nil (fun k _=>by rw [qn7];simp) (by omega) (by simp)
end Go.Proofs.Yteilffoclpgijaa
namespace Go.Proofs.Yteilffoclpgijaa
open Go.RowKit
open Rep (rep)
def qc3 (c:GCase):Bool :=
 bif c.begun then qap c.ops&&qav c.deps
 else !c.fixed&&((c.ops.length:Int)==0&&((c.deps.length:Int)==0&&(decide (c.told=(Zr.zd:Vector Bool 6))&&(decide (c.known=(Zr.zd:Vector Bool 6))&&(decide (c.has=(Zr.zd:Vector Bool 4))&&decide (c.values=(Zr.zd:Vector Int 4)))))))
theorem qje {fu:Nat} (c:GCase):qf5 fu c=some (qc3 c):=by
 unfold qf5 qc3 qch qf4
 simp only [qaa]
 cases c.begun
 ·generalize (!c.fixed)=b1
  generalize ((c.ops.length:Int)==0)=b2
  generalize ((c.deps.length:Int)==0)=b3
  generalize decide (c.told=(Zr.zd:Vector Bool 6))=b4
  generalize decide (c.known=(Zr.zd:Vector Bool 6))=b5
  generalize decide (c.has=(Zr.zd:Vector Bool 4))=b6
  cases b1<;>cases b2<;>cases b3<;>cases b4<;>cases b5<;>cases b6<;>rfl
 ·generalize qap c.ops=b1
  cases b1<;>rfl
def qia (has:Nat→Bool) (s:Int):List GOp→Nat→Bool
 | [],_=>true
 | o::t,k=>bif (qas o.key==s && !has k) then false else qia has s t (k+1)
def qam {n:Nat} (v:Vector Bool n) (k:Nat):Bool:=v[k]?.getD false
theorem qhf {n:Nat} (v:Vector Bool n) (k:Nat) (h:k<n):qa7 v (k:Int)=some (qam v k):=by
 unfold qa7 qam
 rw [if_pos (Int.natCast_nonneg k)]
 simp [h]
theorem qps {c:GCase} {s:Int} (hc:c.ops.length≤4) : ∀ (n m k:Nat),c.ops.length=k+m→m<n→qe0 c s n k=some (qia (qam c.has) s (c.ops.drop k) k)
 | 0,m,k,_,h=>absurd h (by omega)
 | n+1,0,k,hk,_=>by
  rw [qe0,qad (qae (by omega)),List.drop_of_length_le (by omega)]
  rfl
 | n+1,m+1,k,hk,hn=>by
  have hlt:k<c.ops.length:=by omega
  have hd:c.ops.drop k=c.ops[k]::c.ops.drop (k+1):=List.drop_eq_getElem_cons hlt
  have hx:c.ops[k]? = some c.ops[k]:=by simp
  have ih:=qps (s:=s) hc n m (k+1) (by omega) (by omega)
  rw [qe0,qaj (qaf (by omega)),qbm,hx,hd]
  simp only [qaa,qia]
  rw [qa4 (by omega) (by omega),qhf c.has k (by omega)]
  simp only [qaa,qlc,qn1]
  rw [qds (by omega) (by omega),show (k:Int)+1=((k+1:Nat):Int) from by omega,ih]
  cases (qas c.ops[k].key==s)<;>cases qam c.has k<;>rfl
def qbv (c:GCase) (s:Int):Bool:=qia (qam c.has) s c.ops 0
theorem qpt {fu:Nat} {c:GCase} {s:Int} (hc:c.ops.length≤4) (hf:5≤fu):qtt fu c s=some (qbv c s):=qps hc fu c.ops.length 0 (by omega) (by omega)
theorem qpu {has:Nat→Bool} {s:Int} : ∀ (l:List GOp) (k:Nat),qac l s=false→qia has s l k=true
 | [],_,_=>rfl
 | o::t,k,h=>by
  unfold qac at h
  rw [List.any_cons,Bool.or_eq_false_iff] at h
  rw [qia,h.1,qad (by rfl)]
  exact qpu t (k+1) h.2
def qdv (c:GCase) (id:Int) (k:Nat):List GFrame :=
 bif c.fixed then bif !qam c.known k || !qbv c (ofZ k) then [⟨3,k,id,c.ops,c.deps,[],[]⟩] else []
 else bif qac c.ops (ofZ k) && !qam c.told k then [⟨1,k,id,c.ops,[],[],[]⟩] else []
def qby (c:GCase) (id:Int):Nat→Nat→List GFrame
 | 0,_=>[]
 | m+1,k=>qdv c id k++qby c id m (k+1)
theorem qpv (c:GCase) (id:Int) (k:Nat):(qdv c id k).length≤1:=by
 unfold qdv
 cases c.fixed<;>simp only [cond_true,cond_false]
 ·cases (qac c.ops (ofZ k) && !qam c.told k)<;>simp
 ·cases (!qam c.known k || !qbv c (ofZ k))<;>simp
theorem qre {c:GCase} {id:Int} : ∀ (m k:Nat) (f:GFrame),f∈qby c id m k→f.ops=c.ops
 | 0,k,f,h=>by simp [qby] at h
 | m+1,k,f,h=>by
  rw [qby,List.mem_append] at h
  rcases h with h | h
  ·unfold qdv at h
   cases hfx:c.fixed<;>rw [hfx] at h<;>simp only [cond_true,cond_false] at h
   ·cases hb:(qac c.ops (ofZ k) && !qam c.told k)<;>rw [hb] at h<;>simp at h
    rw [h]
   ·cases hb:(!qam c.known k || !qbv c (ofZ k))<;>rw [hb] at h<;>simp at h
    rw [h]
  ·exact qre m (k+1) f h
theorem qrf {c:GCase} {id:Int} : ∀ (m k:Nat),(qby c id m k).length≤m
 | 0,k=>by simp [qby]
 | m+1,k=>by
  rw [qby,List.length_append]
  have:=qpv c id k
  have:=qrf (c:=c) (id:=id) m (k+1)
  omega
theorem appF {l:List GFrame} {f:GFrame} (h:l.length≤6):app l [f]=some (l++[f]):=qbx (by
 have:Rep.bytes GFrame=120:=rfl
 rw [this]
 simp
 omega)
theorem qpw {fu:Nat} {c:GCase} {id:Int} (hc:c.ops.length≤4) (hf:5≤fu) : ∀ (n m k:Nat) (l:List GFrame),k+m=6→m<n→l.length≤k→qd6 fu c id n l k=some (l++qby c id m k)
 | 0,m,k,l,_,h,_=>absurd h (by omega)
 | n+1,0,k,l,hk,_,_=>by
  rw [qd6,qad (qae (by omega))]
  simp [qby]
 | n+1,m+1,k,l,hk,hn,hl=>by
  have ih:=fun l' hl'=>qpw (id:=id) hc hf n m (k+1) l' (by omega) (by omega) hl'
  have hw:IntKind.wrap .i64 ((k:Int)+1)=((k+1:Nat):Int):=by rw [qds (by omega) (by omega)];omega
  rw [qd6,qaj (qaf (by omega)),qby]
  simp only [qaa,qjm,qhp,qjl,hw,appF (show l.length≤6 by omega),qhf c.told k (by omega),qhf c.known k (by omega),qa4 (show (0:Int)≤k by omega) (show (k:Int)<6 by omega),qpt hc hf]
  unfold qdv
  have i0:=ih l (by omega)
  have i1:=fun f=>ih (l++[f]) (by simp;omega)
  cases hfx:c.fixed
  ·cases ht:qac c.ops (ofZ k)
   ·simp only [Bool.not_false,cond_true,cond_false,Bool.false_and]
    rw [i0];simp
   ·cases hh:qam c.told k
    ·simp only [Bool.not_false,cond_true,cond_false,Bool.true_and]
     rw [i1];simp;rfl
    ·simp only [Bool.not_false,Bool.not_true,cond_true,cond_false,Bool.true_and]
     rw [i0];simp
  ·cases hh:qam c.known k
   ·simp only [Bool.not_false,Bool.not_true,cond_true,cond_false,Bool.true_or]
    rw [i1];simp;rfl
   ·cases ht:qac c.ops (ofZ k)
    ·have hwh:qbv c (ofZ k)=true:=qpu c.ops 0 ht
     simp only [Bool.not_true,cond_true,cond_false,hwh,Bool.or_false]
     rw [i0];simp
    ·cases hwh:qbv c (ofZ k)
     ·simp only [Bool.not_false,Bool.not_true,cond_true,cond_false,Bool.false_or]
      rw [i1];simp;rfl
     ·simp only [Bool.not_true,cond_true,cond_false,Bool.or_false]
      rw [i0];simp
def qsk (c:GCase) (id:Int):Bool:=qc3 c&&(c.begun&&(decide (0≤id∧id<32) && !qcp c.deps id))
def qe9 (c:GCase) (id:Int):List GFrame:=bif qsk c id then qby c id 6 0 else []
theorem qoa {c:GCase} (h:qc3 c=true) (hb:c.begun=true):c.ops.length≤4:=by
 unfold qc3 at h
 rw [hb] at h
 simp only [cond_true,Bool.and_eq_true] at h
 exact (qci h.1).2
theorem qpx {fu:Nat} {c:GCase} {id:Int} (hf:7≤fu):qo0 fu c id=some (qe9 c id):=by
 unfold qo0 qe9 qsk qgp qn2
 rw [qje]
 simp only [qaa]
 cases hg:qc3 c
 ·rfl
 ·cases hb:c.begun
  ·rfl
  ·by_cases h0:id<0
   ·rw [qaf h0,qae (show ¬ (0≤id∧id<32) by omega)];rfl
   ·by_cases h1:id≥32
    ·rw [qae h0,qaf h1,qae (show ¬ (0≤id∧id<32) by omega)];rfl
    ·rw [qae h0,qae h1,qaf (show 0≤id∧id<32 by omega)]
     cases hh:qcp c.deps id
     ·have:=qpw (fu:=fu) (id:=id) (qoa hg hb) (by omega) fu 6 0 [] (by omega) (by omega) (by simp)
      simpa using this
     ·rfl
theorem againC_small {c:GCase} {id:Int}:(qe9 c id).length≤6 ∧ ∀ f∈qe9 c id,f.ops.length≤4:=by
 unfold qe9
 cases hs:qsk c id
 ·simp
 ·unfold qsk at hs
  simp only [Bool.and_eq_true] at hs
  refine ⟨qrf 6 0,fun f hf => ?_⟩
  rw [qre 6 0 f hf]
  exact qoa hs.1 hs.2.1
def qun (ops:List GOp):GCase:=⟨true,false,ops,Zr.zd,Zr.zd,[],Zr.zd,Zr.zd⟩
def noC:GCase:=⟨false,false,[],Zr.zd,Zr.zd,[],Zr.zd,Zr.zd⟩
def qdb (t:GTxn):GCase × List GFrame × Int :=
 bif decide (0≤t.id∧t.id<32) then bif qap t.ops then (qun t.ops,qe9 (qun t.ops) t.id,0) else (noC,[],1) else (noC,[],2)
theorem appO {l:List GOp} (h:l.length≤4):app ([]:List GOp) l=some l:=by
 rw [qbx]
 ·simp
 ·have:Rep.bytes GOp=24:=rfl
  rw [this]
  simp
  omega
theorem qsl {fu:Nat} {t:GTxn} (hf:7≤fu):qg1 fu t=some (qdb t):=by
 unfold qg1 qdb qe7 qgq qe6
 by_cases h0:t.id<0
 ·rw [qaf h0,qae (show ¬ (0≤t.id∧t.id<32) by omega)];rfl
 ·by_cases h1:t.id≥32
  ·rw [qae h0,qaf h1,qae (show ¬ (0≤t.id∧t.id<32) by omega)];rfl
  ·rw [qae h0,qae h1,qaf (show 0≤t.id∧t.id<32 by omega)]
   simp only [qaa,cond_false,cond_true]
   cases hg:qap t.ops
   ·rfl
   ·simp only [Bool.not_true,cond_false,cond_true]
    rw [appO (qci hg).2]
    simp only [qaa]
    have:=qpx (c:=qun t.ops) (id:=t.id) hf
    unfold qun at this ⊢
    erw [this]
    rfl
def qct (c:GCase):List Int × Bool:=bif c.begun&&(qc3 c&&(qbv c 0&&qbv c 1)) then (c.values.toList.take c.ops.length,true) else ([],false)
theorem qkc {fu:Nat} {c:GCase} (hf:7≤fu):qel fu c=some (qct c):=by
 unfold qel qct qd7 qfj
 rw [qje]
 simp only [qaa]
 cases hb:c.begun
 ·rfl
 ·cases hg:qc3 c
  ·rfl
  ·have hl:=qoa hg hb
   obtain ⟨fu,rfl⟩ : ∃ n,fu=n+3:=⟨fu-3,by omega⟩
   simp only [Bool.not_true,cond_true,cond_false,Bool.true_and]
   rw [qb0,qpt hl (by omega)]
   simp only [qaa]
   rw [qaj (by rfl)]
   cases qbv c 0
   ·rfl
   ·rw [qad (by rfl),qb0,show IntKind.wrap .i64 (0+1)=1 from by rw [qds (by omega) (by omega)];rfl,qpt hl (by omega)]
    simp only [qaa]
    rw [qaj (by rfl)]
    cases qbv c 1
    ·rfl
    ·rw [qad (by rfl),qb0,show IntKind.wrap .i64 (1+1)=2 from by rw [qds (by omega) (by omega)];rfl,qad (by rfl)]
     have hv:c.values.toList.length=4:=by simp
     have hcut:qqs c.values.toList none (some (c.ops.length:Int))=some (c.values.toList.take c.ops.length):=by
      unfold qqs qgm
      rw [if_pos (by simp;omega)]
      simp
     rw [hcut]
     simp only [qaa,qb7]
     rw [qbx]
     ·rfl
     ·have:Rep.bytes Int=8:=rfl
      rw [this]
      simp
      omega
end Go.Proofs.Yteilffoclpgijaa
namespace Go.Proofs.Yteilffoclpgijaa
open Go.RowKit
open Rep (rep)
def eat (v:Vector GEntry 32) (k:Nat):GEntry:=v[k]?.getD Zr.zd
theorem q2a {v:Vector GEntry 32} {k:Nat} (hk:k<32):v[k]=eat v k:=by simp [eat,hk]
theorem qwq {v:Vector GEntry 32} {k:Nat} (hk:k<32):qa7 v (k:Int)=some (eat v k):=by rw [qsh hk,q2a hk]
theorem q6s {v u:Vector GEntry 32} (h : ∀ k,k<32→eat v k=eat u k):v=u:=by
 refine Vector.ext fun k hk => ?_
 rw [q2a hk,q2a hk]
 exact h k hk
theorem q6t {v:Vector GEntry 32} {k:Nat} (hk : ¬ k<32):eat v k=Zr.zd:=by simp [eat,hk]
def qrg (e:GEntry):Bool:=((e.ops.length:Int)==0)&&(((e.first.length:Int)==0)&&(((e.deps.length:Int)==0)&&(((e.at_.length:Int)==0)&&((e.values.length:Int)==0))))
def qvm (m:Int):Int→List Int→Bool
 | _,[]=>true
 | b,k::t=>decide (b<k∧k<m)&&qvm m k t
def qup (k:Int) (e:GEntry):Bool:=qap e.ops&&(qav e.first&&(qav e.deps&&(!qcp e.first k&&(!qcp e.deps k&&(!(e.state==1&&decide ((e.deps.length:Int)>0))&&(!(e.state != 3&&decide ((e.at_.length:Int)>0))&&(!((e.at_.length:Int) != (e.values.length:Int))&&qvm e.ops.length (-1) e.at_)))))))
def qrh (k:Int) (e:GEntry):Bool:=bif e.state==0 then qrg e else qup k e
def qgg (k:Int) (e:GEntry) (there:Bool):Bool:=decide (0≤e.state∧e.state≤3)&&(((e.state==3)==there)&&qrh k e)
structure GoodN (s:GNode):Prop where
 nodup:s.order.Nodup
 inr : ∀ m∈s.order,0≤m∧m<32
 ent : ∀ k:Nat,k<32→qgg k (eat s.entries k) (decide ((k:Int)∈s.order))=true
open Classical in
noncomputable def qwr (s:GNode):Bool:=decide (GoodN s)
theorem goodN_iff {s:GNode}:qwr s=true↔GoodN s:=by simp [qwr]
structure ESz (e:GEntry) (N:Nat):Prop where
 ops:e.ops.length<N∧e.ops.length*24≤140737488351232
 first:e.first.length<N∧e.first.length≤17592186043904
 deps:e.deps.length<N∧e.deps.length≤17592186043904
 at_:e.at_.length<N∧e.at_.length≤17592186043904
 values:e.values.length<N∧e.values.length≤17592186043904
structure NSz (s:GNode) (N:Nat):Prop where
 order:s.order.length<N∧s.order.length≤17592186043904
 ent : ∀ k,ESz (eat s.entries k) N
theorem qkd {y69:Int} {rec70:Int→Option Bool} {e:GEntry} (ha:e.at_.length≤17592186043904) : ∀ (n m k:Nat) (b:Int),e.at_.length=k+m→m<n → -1≤b→(k=0→b = -1)→(∀ j,k=j+1→e.at_[j]? = some b) →
  qbn y69 rec70 e n k=bif qvm e.ops.length b (e.at_.drop k) then qc7 y69 rec70 else some false
 | 0,m,k,b,_,h,_,_,_=>absurd h (by omega)
 | n+1,0,k,b,hk,_,_,_,_=>by
  rw [qbn,qad (qae (by omega)),List.drop_of_length_le (by omega)]
  rfl
 | n+1,m+1,k,b,hk,hn,hb,hb0,hbj=>by
  have hlt:k<e.at_.length:=by omega
  have hx:e.at_[k]? = some e.at_[k]:=List.getElem?_eq_getElem hlt
  have ih:=qkd (y69:=y69) (rec70:=rec70) ha n m (k+1) e.at_[k] (by omega) (by omega)
  rw [qbn,qaj (qaf (by omega)),qbm,hx,qaa,List.drop_eq_getElem_cons hlt]
  simp only [qdt,qhu,wrs k (by omega),qvm]
  generalize hg:e.at_[k]=x at ih hx
  by_cases h1:x<0
  ·rw [qaj (qaf h1),qae (show ¬ (b<x∧x<(e.ops.length:Int)) by omega)]
   rfl
  ·rw [qad (qae h1)]
   have ih:=ih (by omega) (by omega) (fun j hj=>by rw [show j=k from by omega];exact hx)
   by_cases h2:x≥(e.ops.length:Int)
   ·rw [qaj (qaf h2),qae (show ¬ (b<x∧x<(e.ops.length:Int)) by omega)]
    rfl
   ·rw [qad (qae h2)]
    cases k with
    | zero =>
     rw [qad (qae (by omega)),qaf (show b<x∧x<(e.ops.length:Int) by have:=hb0 rfl;omega),Bool.true_and,← ih]
     rfl
    | succ j =>
     rw [qaj (qaf (by omega)),show IntKind.wrap .i64 (((j+1:Nat):Int)-1)=(j:Int) by rw [qds (by omega) (by omega)];omega,qbm,hbj j rfl,qaa]
     by_cases h3:b≥x
     ·rw [qaf h3,qae (show ¬ (b<x∧x<(e.ops.length:Int)) by omega)]
      rfl
     ·rw [qae h3,qaf (show b<x∧x<(e.ops.length:Int) by omega),Bool.true_and,← ih]
      rfl
theorem q2b {e:GEntry} {N:Nat} (h:ESz e N):decide ((IntKind.wrap .i64 ((IntKind.wrap .i64 ((IntKind.wrap .i64 ((IntKind.wrap .i64 ((e.ops.length:Int)+(e.first.length:Int)))+(e.deps.length:Int)))+(e.at_.length:Int)))+(e.values.length:Int)))>0) = !qrg e:=by
 obtain ⟨⟨_,h1⟩,⟨_,h2⟩,⟨_,h3⟩,⟨_,h4⟩,⟨_,h5⟩⟩:=h
 unfold qrg
 generalize e.ops.length=a1 at *
 generalize e.first.length=a2 at *
 generalize e.deps.length=a3 at *
 generalize e.at_.length=a4 at *
 generalize e.values.length=a5 at *
 rw [qds (x:=(a1:Int)+a2) (by omega) (by omega),qds (x:=(a1:Int)+a2+a3) (by omega) (by omega),qds (x:=(a1:Int)+a2+a3+a4) (by omega) (by omega),qds (by omega) (by omega)]
 by_cases h:(a1:Int)+a2+a3+a4+a5>0
 ·rw [qaf h]
  symm
  rw [Bool.not_eq_true']
  apply Bool.eq_false_iff.2
  simp only [ne_eq,Bool.and_eq_true,beq_iff_eq]
  omega
 ·rw [qae h]
  symm
  rw [Bool.not_eq_false']
  simp only [Bool.and_eq_true,beq_iff_eq]
  omega
theorem quq {fu N k:Nat} {e:GEntry} {there:Bool} (h:ESz e N) (hfu:N≤fu) {rec:Int→Option Bool} :
  (bif decide (e.state<0) then qcc fu k rec e true else (bif decide (e.state>3) then qcc fu k rec e true else qcc fu k rec e (!((e.state==3)==there))))=bif qgg k e there then qc7 k rec else some false:=by
 unfold qgg
 by_cases h1:e.state<0
 ·rw [qaj (qaf h1),qae (show ¬ (0≤e.state∧e.state≤3) by omega)];rfl
 ·rw [qad (qae h1)]
  by_cases h2:e.state>3
  ·rw [qaj (qaf h2),qae (show ¬ (0≤e.state∧e.state≤3) by omega)];rfl
  ·rw [qad (qae h2),qaf (show 0≤e.state∧e.state≤3 by omega),Bool.true_and]
   unfold qcc
   cases h3:((e.state==3)==there)
   ·rfl
   ·rw [Bool.true_and,qad (c := !true) rfl]
    unfold qhw qrh
    cases h0:(e.state==0)
    ·rw [cond_false,cond_false]
     have hl:=qkd (y69:=k) (rec70:=rec) h.at_.2 fu e.at_.length 0 (-1) (by omega) (by have:=h.at_.1;omega) (by omega) (by omega) (by omega)
     have hl:qbn k rec e fu 0=bif qvm e.ops.length (-1) e.at_ then qc7 k rec else some false:=hl
     simp only [qaa,qba,qhv,hl]
     unfold qup
     generalize qap e.ops=b1
     generalize qav e.first=b2
     generalize qav e.deps=b3
     generalize qcp e.first k=b4
     generalize qcp e.deps k=b5
     generalize decide ((e.deps.length:Int)>0)=b7
     generalize decide ((e.at_.length:Int)>0)=b9
     generalize ((e.at_.length:Int) != (e.values.length:Int))=b10
     cases b1
     ·rfl
     cases b2
     ·rfl
     cases b3
     ·rfl
     cases b4
     case true=>rfl
     cases b5
     case true=>rfl
     generalize (e.state==1)=b6
     generalize (e.state != 3)=b8
     cases b6<;>cases b7<;>cases b8<;>cases b9<;>cases b10<;>rfl
    ·rw [cond_true,cond_true,q2b h]
     cases qrg e<;>rfl
theorem qke {fu N:Nat} {s:GNode} {d:Vector Bool 32} (h:NSz s N) (hfu:N≤fu) : ∀ (n m k:Nat),k+m=32→m<n → ∃ b,qb8 fu s d n k=some b∧(b=true ↔ ∀ j,k≤j→j<32→qgg j (eat s.entries j) (bat d j)=true)
 | 0,m,k,_,h=>absurd h (by omega)
 | n+1,0,k,hk,_=>⟨true,by rw [qb8,qad (qae (by omega))],by simp only [true_iff];intro j h1 h2;omega⟩
 | n+1,m+1,k,hk,hn=>by
  have hk32:k<32:=by omega
  obtain ⟨b,h1,h2⟩:=qke (d:=d) h hfu n m (k+1) (by omega) (by omega)
  rw [qb8,qaj (qaf (by omega)),qwq hk32,qaa,qaa,qa4 (by omega) (by omega),qaa,qwo hk32,qaa,quq (h.ent k) hfu]
  cases he:qgg k (eat s.entries k) (bat d k) with
  | false =>
   refine ⟨false,rfl,?_⟩
   simp only [Bool.false_eq_true,false_iff]
   intro h
   rw [h k (Nat.le_refl _) hk32] at he;cases he
  | true =>
   refine ⟨b,?_,?_⟩
   ·rw [cond_true,qc7,wrs k (by omega)];exact h1
   ·rw [h2]
    constructor
    ·intro h j hj
     by_cases e:j=k
     ·subst e;intro _;exact he
     ·exact h j (by omega)
    ·intro h j hj
     exact h j (by omega)
theorem qws {k:Int} {e:GEntry} {t:Bool} (h:qgg k e t=true):(e.state=3↔t=true):=by
 unfold qgg at h
 simp only [Bool.and_eq_true] at h
 have h1:=h.2.1
 cases t
 ·simp at h1;simp [h1]
 ·simp at h1;simp [h1]
theorem qkf {fu N:Nat} {s:GNode} (h:NSz s N) (hfu:N+40≤fu) : ∀ (n m k:Nat) (d:Vector Bool 32),s.order.length=k+m→m<n→(s.order.take k).Nodup→(∀ x∈s.order.take k,(0≤x∧x<32))→(∀ j,j<32→bat d j=decide ((j:Int)∈s.order.take k)) →
  ∃ b,qbf fu s n d k=some b∧(b=true↔GoodN s)
 | 0,m,k,d,_,h,_,_,_=>absurd h (by omega)
 | n+1,0,k,d,hk,_,h1,h2,h3=>by
  have hlen:=h.order.2
  rw [qbf,qad (qae (by omega))]
  rw [List.take_of_length_le (by omega)] at h1 h2 h3
  obtain ⟨b,e1,e2⟩:=qke (d:=d) h (show N≤fu by omega) fu 32 0 (by omega) (by omega)
  refine ⟨b,e1,?_⟩
  rw [e2]
  constructor
  ·intro h
   exact ⟨h1,h2,fun k hk=>by rw [← h3 k hk];exact h k (Nat.zero_le _) hk⟩
  ·intro h j _ hj
   rw [h3 j hj]
   exact h.ent j hj
 | n+1,m+1,k,d,hk,hn,h1,h2,h3=>by
  have hlt:k<s.order.length:=by omega
  have hx:s.order[k]? = some s.order[k]:=List.getElem?_eq_getElem hlt
  have hmem:s.order[k]∈s.order:=List.getElem_mem hlt
  have htk:s.order.take (k+1)=s.order.take k++[s.order[k]]:=(List.take_append_getElem hlt).symm
  have hlen:=h.order.2
  rw [qbf,qaj (qaf (by omega)),qbm,hx,qaa]
  have ih:=qkf h hfu n m (k+1)
  rw [htk] at ih
  generalize hg:s.order[k]=x at *
  rcases qhe x with ⟨y,hy,rfl⟩ | hno
  ·rw [qad (qae (by omega)),qad (qae (by omega)),qa4 (by omega) (by omega),qaa,qwo hy,qaa]
   cases hb:bat d y with
   | true =>
    refine ⟨false,rfl,?_⟩
    simp only [Bool.false_eq_true,false_iff]
    intro hG
    have hin:(y:Int)∈s.order.take k:=by rw [h3 y hy] at hb;simpa using hb
    have hnd:=hG.nodup
    rw [← List.take_append_drop (k+1) s.order,htk] at hnd
    have:=(List.nodup_append.1 (List.nodup_append.1 hnd).1).2.2 _ hin _ (List.mem_singleton.2 rfl)
    exact this rfl
   | false =>
    have hnin:(y:Int)∉s.order.take k:=by rw [h3 y hy] at hb;simpa using hb
    rw [cond_false,qaa,qwq hy,qaa]
    cases h3s:((eat s.entries y).state != 3) with
    | true =>
     refine ⟨false,rfl,?_⟩
     simp only [Bool.false_eq_true,false_iff]
     intro hG
     have:=(qws (hG.ent y hy)).2 (by simpa using hmem)
     rw [this] at h3s;cases h3s
    | false =>
     unfold qc6 qht qhs
     rw [cond_false,qa4 (by omega) (by omega),qaa,qwo hy,qaa,qgw hy,qaa,qaa,wrs k (by omega)]
     refine ih (d.set y true) (by omega) (by omega) ?_ ?_ ?_
     ·refine List.nodup_append.2 ⟨h1,by simp,fun a ha b hb => ?_⟩
      rw [List.mem_singleton.1 hb]
      rintro rfl
      exact hnin ha
     ·intro z hz
      rcases List.mem_append.1 hz with hz | hz
      ·exact h2 z hz
      ·rw [List.mem_singleton.1 hz];omega
     ·intro j hj
      rw [qge hy]
      by_cases e:y=j
      ·subst e;simp
      ·rw [if_neg e,h3 j hj]
       congr 1
       simp only [List.mem_append,List.mem_singleton,eq_iff_iff]
       constructor
       ·exact .inl
       ·rintro (h | h)
        ·exact h
        ·omega
  ·have:qc6 d k (qbf fu s n) x true=some false:=rfl
   refine ⟨false,?_,?_⟩
   ·by_cases h0:x<0
    ·rw [qaj (qaf h0)];rfl
    ·rw [qad (qae h0),qaj (qaf (by omega))];rfl
   ·simp only [Bool.false_eq_true,false_iff]
    intro hG
    exact hno (hG.inr x hmem)
theorem qur {fu N:Nat} {s:GNode} (h:NSz s N) (hfu:N+40≤fu):qiz fu s=some (qwr s):=by
 unfold qiz
 rw [qaa]
 obtain ⟨b,h1,h2⟩:=qkf h hfu fu s.order.length 0 (Zr.zd:Vector Bool 32) (by omega) (by have:=h.order.1;omega) (by simp) (by simp) (fun j _=>by rw [qn7];simp)
 have h1:qbf fu s fu (Zr.zd:Vector Bool 32) 0=some b:=h1
 rw [h1]
 congr 1
 rw [Bool.eq_iff_iff,h2,goodN_iff]
end Go.Proofs.Yteilffoclpgijaa
namespace Go.Proofs.Yteilffoclpgijaa
open Go.RowKit
open Rep (rep)
def qqg (s:GNode) (id:Int) (ops:List GOp) (sh:Int) (k:Nat):Bool:=(k:Int) != id&&((eat s.entries k).state != 0&&qa3 (eat s.entries k).ops ops sh)
def qx5 (s:GNode) (id:Int) (ops:List GOp) (sh:Int):List Nat:=(List.range 32).filter (qqg s id ops sh)
def qgh (s:GNode) (id:Int) (ops:List GOp) (sh:Int):List Int:=qcs (qx5 s id ops sh)
theorem q2c {p:Nat→Bool} {k m:Nat}:(List.range' k (m+1)).filter p=(bif p k then [k] else [])++(List.range' (k+1) m).filter p:=by
 rw [List.range'_succ,List.filter_cons]
 cases p k<;>rfl
theorem qjf {s:GNode} {id:Int} {ops:List GOp} {sh:Int} : ∀ (n m k:Nat) (l:List Int),k+m=32→m<n→l.length≤k→qay s id ops sh n l k=some (l++qcs ((List.range' k m).filter (qqg s id ops sh)))
 | 0,m,k,l,_,h,_=>absurd h (by omega)
 | n+1,0,k,l,hk,_,_=>by rw [qay,qad (qae (by omega))];simp [qcs]
 | n+1,m+1,k,l,hk,hn,hl=>by
  have hk32:k<32:=by omega
  have hb:Rep.bytes Int=8:=rfl
  have ih:=fun l hl=>qjf (s:=s) (id:=id) (ops:=ops) (sh:=sh) n m (k+1) l (by omega) (by omega) hl
  rw [qay,qaj (qaf (by omega)),qwq hk32,qaa,qaa,qaa,q2c]
  simp only [qdy,qe8,wrs k (by omega)]
  have no : ∀ b:Bool,b=false→(bif b then (app l [(k:Int)]).bind fun l44=>qay s id ops sh n l44 ((k+1:Nat):Int) else qay s id ops sh n l ((k+1:Nat):Int))=some (l++qcs ((List.range' (k+1) m).filter (qqg s id ops sh))):=fun b hb=>by
   rw [hb,cond_false,ih l (by omega)]
  have yes:(app l [(k:Int)]).bind (fun l44=>qay s id ops sh n l44 ((k+1:Nat):Int))=some (l++qcs (k::(List.range' (k+1) m).filter (qqg s id ops sh))):=by
   rw [qbx (by rw [hb];simp only [List.length_singleton];omega),qaa,ih _ (by simp;omega)]
   simp [qcs]
  unfold qqg at no yes ⊢
  cases h1:((k:Int) != id)
  ·exact no false rfl
  ·cases h2:((eat s.entries k).state != 0)
   ·exact no false rfl
   ·cases h3:qa3 (eat s.entries k).ops ops sh
    ·exact no false rfl
    ·exact yes
theorem qlz {fu:Nat} {s:GNode} {id:Int} {ops:List GOp} {sh:Int} (hfu:40≤fu):qft fu s id ops sh=some (qgh s id ops sh):=by
 unfold qft
 have h:=qjf (s:=s) (id:=id) (ops:=ops) (sh:=sh) fu 32 0 [] (by omega) (by omega) (by simp)
 have h:qay s id ops sh fu [] 0=some ([]++qcs ((List.range' 0 32).filter (qqg s id ops sh))):=h
 rw [h,qgh,qx5,List.range_eq_range']
 rfl
def qbk (s:GNode):GGraph:={ known:=Vector.ofFn fun k:Fin 32=>decide ((eat s.entries k.val).state≥2),deps:=Vector.ofFn fun k:Fin 32=>(eat s.entries k.val).deps }
theorem qde {s:GNode} {k:Nat} (hk:k<32):bat (qbk s).known k=decide ((eat s.entries k).state≥2):=by
 rw [← qx2 hk]
 simp [qbk]
theorem qce {s:GNode} {k:Nat} (hk:k<32):qa8 (qbk s) k=(eat s.entries k).deps:=by
 simp [qbk,qa8,hk]
theorem qzq {g:GGraph} {v:Vector (List Int) 32} {k j:Nat} {x:List Int} (hk:k<32):qa8 { g with deps:=v.set k x } j=if k=j then x else qa8 { g with deps:=v } j:=by
 unfold qa8
 by_cases hj:j<32
 ·simp only [hj,dite_true,Vector.getElem_set]
 ·have:k≠j:=by omega
  simp [hj,this]
theorem qus {g h:GGraph} (h1 : ∀ k,k<32→bat g.known k=bat h.known k) (h2 : ∀ k,k<32→qa8 g k=qa8 h k):g=h:=by
 obtain ⟨a,b⟩:=g
 obtain ⟨c,d⟩:=h
 have e1:a=c:=q13 h1
 have e2:b=d:=Vector.ext fun k hk=>by
  have:=h2 k hk
  simpa [qa8,hk] using this
 rw [e1,e2]
def q2d (s:GNode) (G:GGraph):Prop := ∀ k,k<32→bat G.known k=decide ((eat s.entries k).state≥2)∧qa8 G k=(eat s.entries k).deps
theorem q2e (s:GNode):q2d s (qbk s):=fun _ hk=>⟨qde hk,qce hk⟩
theorem qjg {s:GNode} {G:GGraph} (hG:q2d s G) : ∀ (n m k:Nat) (g:GGraph),k+m=32→m<n→(∀ j,j<k→bat g.known j=bat G.known j∧qa8 g j=qa8 G j)→qcd s n g k=some G
 | 0,m,k,g,_,h,_=>absurd h (by omega)
 | n+1,0,k,g,hk,_,hg=>by
  rw [qcd,qad (qae (by omega)),qaa]
  exact congrArg some (qus (fun j hj=>(hg j (by omega)).1) fun j hj=>(hg j (by omega)).2)
 | n+1,m+1,k,g,hk,hn,hg=>by
  have hk32:k<32:=by omega
  rw [qcd,qaj (qaf (by omega)),qwq hk32,qaa,qaa,qa4 (by omega) (by omega),qaa,qwo hk32,qaa,qgw hk32,qaa,qaa,qaa,q9t hk32,qaa,qgw hk32,qaa,qaa,wrs k (by omega)]
  refine qjg hG n m (k+1) _ (by omega) (by omega) fun j hj => ?_
  have hj32:j<32:=by omega
  refine ⟨?_,?_⟩
  ·show bat (g.known.set k _) j=_
   rw [qge hk32]
   by_cases e:k=j
   ·subst e;rw [if_pos rfl,(hG k hk32).1]
   ·rw [if_neg e];exact (hg j (by omega)).1
  ·rw [qzq hk32]
   by_cases e:k=j
   ·subst e;rw [if_pos rfl,(hG k hk32).2]
   ·rw [if_neg e]
    exact (hg j (by omega)).2
theorem qsm {fu:Nat} {s:GNode} (hfu:40≤fu):qjq fu s=some (qbk s):=qjg (q2e s) fu 32 0 _ (by omega) (by omega) fun j h=>by omega
end Go.Proofs.Yteilffoclpgijaa
namespace Go.Proofs.Yteilffoclpgijaa
open Go.RowKit
open Rep (rep)
theorem qa6 {f:GFrame} (h:qak f=0):(1≤f.kind∧f.kind≤5)∧(0≤f.node∧f.node<6)∧(0≤f.id∧f.id<32):=by
 unfold qak at h
 split at h
 ·cases h
 ·split at h
  ·cases h
  ·omega
theorem qbt {α : Type} {n:Nat} {v:Vector α n} {j:Int} {x : α} (h0:0≤j) (h1:j<n):qe2 v j x=some (v.setIfInBounds j.toNat x):=by
 unfold qe2
 rw [if_pos ⟨h0,h1⟩]
theorem qsn {n:Nat} {v:Vector Bool n} {j:Int} (h0:0≤j) (h1:j<n):qa7 v j=some (qam v j.toNat):=by
 have:=qhf v j.toNat (by omega)
 rw [show ((j.toNat:Nat):Int)=j from by omega] at this
 exact this
theorem qx6 {n:Nat} {v:Vector Int n} {j:Int} (h0:0≤j) (h1:j<n):qa7 v j=some (v[j.toNat]?.getD 0):=by
 unfold qa7
 rw [if_pos h0]
 have:j.toNat<n:=by omega
 simp [this]
def qzr (b:Bool):Int:=bif b then 1 else 0
def qob (v:Vector Bool 6) (k:Nat):Int:=qzr (qam v k)+qzr (qam v (k+1))+qzr (qam v (k+2))
def qcb (c:GCase):Bool:=(!qac c.ops 0||decide (qob c.told 0≥2))&&(!qac c.ops 1||decide (qob c.told 3≥2))
theorem qng {c:GCase} {rec:Int→Option Bool} {s:Nat} (hs:s<2) {n:Nat}:qbs c s rec (n+4) 0 0=bif (qac c.ops s && !decide (qob c.told (3*s)≥2)) then some false else rec (IntKind.wrap .i64 ((s:Int)+1)):=by
 have h3:IntKind.wrap .i64 ((s:Int)*3)=(s:Int)*3:=qds (by omega) (by omega)
 have step : ∀ (m:Nat) (y:Int) (k:Nat),k<3→0≤y→y≤10→qbs c s rec (m+1) y k=qbs c s rec m (y+qzr (qam c.told (3*s+k))) ((k+1:Nat):Int):=by
  intro m y k hk hy hy2
  have hj:IntKind.wrap .i64 ((s:Int)*3+(k:Int))=((3*s+k:Nat):Int):=by rw [qds (by omega) (by omega)];omega
  rw [qbs,qaj (qaf (by omega)),h3,hj,qa4 (by omega) (by omega),qaa,qhf c.told (3*s+k) (by omega),qaa]
  simp only [qi1]
  rw [show IntKind.wrap .i64 ((k:Int)+1)=((k+1:Nat):Int) from by rw [qds (by omega) (by omega)];omega,qds (by omega) (by omega)]
  cases qam c.told (3*s+k)
  ·simp [qzr]
  ·rfl
 have h1 : ∀ b,0≤qzr b∧qzr b≤1:=fun b=>by cases b<;>decide
 have e0:=step (n+3) 0 0 (by omega) (by omega) (by omega)
 have b0:=h1 (qam c.told (3*s+0))
 have b1:=h1 (qam c.told (3*s+1))
 have e1:=step (n+2) (0+qzr (qam c.told (3*s+0))) 1 (by omega) (by omega) (by omega)
 have e2:=step (n+1) (0+qzr (qam c.told (3*s+0))+qzr (qam c.told (3*s+1))) 2 (by omega) (by omega) (by omega)
 have e0:qbs c s rec (n+4) 0 0=_:=e0
 rw [e0]
 have e1:qbs c s rec (n+3) _ ((0+1:Nat):Int)=_:=e1
 rw [e1]
 have e2:qbs c s rec (n+2) _ ((1+1:Nat):Int)=_:=e2
 rw [e2,qbs,qad (qae (by omega)),qaa]
 have hc:qob c.told (3*s)=0+qzr (qam c.told (3*s+0))+qzr (qam c.told (3*s+1))+qzr (qam c.told (3*s+2)):=by unfold qob;rw [Int.zero_add];rfl
 rw [← hc]
 cases qac c.ops s
 ·rfl
 ·simp only [cond_true,Bool.true_and,qi2,qln]
  by_cases h:qob c.told (3*s)≥2
  ·rw [qaf h,qae (by omega)];rfl
  ·rw [qae h,qaf (by omega)];rfl
theorem qzs {fu:Nat} {c:GCase} (hf:7≤fu):qo4 fu c=some (qcb c):=by
 obtain ⟨n,rfl⟩ : ∃ n,fu=n+4:=⟨fu-4,by omega⟩
 unfold qo4 qcb
 have e0:=qng (c:=c) (rec:=qca (n+4) c (n+3)) (s:=0) (by omega) (n:=n)
 have e1:=qng (c:=c) (rec:=qca (n+4) c (n+2)) (s:=1) (by omega) (n:=n)
 have e0:qbs c 0 (qca (n+4) c (n+3)) (n+4) 0 0=bif (qac c.ops 0 && !decide (qob c.told 0≥2)) then some false else qca (n+4) c (n+3) (IntKind.wrap .i64 (0+1)):=e0
 have e1:qbs c 1 (qca (n+4) c (n+2)) (n+4) 0 0=bif (qac c.ops 1 && !decide (qob c.told 3≥2)) then some false else qca (n+4) c (n+2) (IntKind.wrap .i64 (1+1)):=e1
 have w1:IntKind.wrap .i64 (0+1)=1:=by rw [qds (by omega) (by omega)];rfl
 have w2:IntKind.wrap .i64 (1+1)=2:=by rw [qds (by omega) (by omega)];rfl
 rw [qca,qaj (by rfl),e0]
 cases hA:(qac c.ops 0 && !decide (qob c.told 0≥2))
 ·rw [cond_false,w1,qca,qaj (by rfl),e1]
  cases hB:(qac c.ops 1 && !decide (qob c.told 3≥2))
  ·rw [cond_false,w2,qca,qad (by rfl)]
   revert hA hB
   cases qac c.ops 0<;>cases qac c.ops 1<;>cases decide (qob c.told 0≥2)<;>cases decide (qob c.told 3≥2)<;>simp
  ·rw [cond_true]
   revert hB
   cases qac c.ops 0<;>cases qac c.ops 1<;>cases decide (qob c.told 0≥2)<;>cases decide (qob c.told 3≥2)<;>simp
 ·rw [cond_true]
  revert hA
  cases qac c.ops 0<;>cases qac c.ops 1<;>cases decide (qob c.told 0≥2)<;>cases decide (qob c.told 3≥2)<;>simp
def qbr (sh:Int) (c:GCase) (k v:Int):GCase :=
 bif (decide (k<(c.ops.length:Int))&&(((idx c.ops k).map fun o=>qas o.key==sh).getD false && !qam c.has k.toNat)) then { c with has:=c.has.setIfInBounds k.toNat true,values:=c.values.setIfInBounds k.toNat v } else c
def qdn (sh:Int):GCase→List Int→List Int→GCase
 | c,k::at_,v::vs=>qdn sh (qbr sh c k v) at_ vs
 | c,_,_=>c
theorem qfp {sh:Int} {c:GCase} {k v:Int}:(qbr sh c k v).ops=c.ops∧(qbr sh c k v).fixed=c.fixed∧(qbr sh c k v).begun=c.begun∧(qbr sh c k v).deps=c.deps∧(qbr sh c k v).told=c.told∧(qbr sh c k v).known=c.known:=by
 unfold qbr
 cases (decide (k<(c.ops.length:Int))&&(((idx c.ops k).map fun o=>qas o.key==sh).getD false && !qam c.has k.toNat))<;>exact ⟨rfl,rfl,rfl,rfl,rfl,rfl⟩
theorem doneL_same {sh:Int} : ∀ {at_ vs:List Int} {c:GCase},(qdn sh c at_ vs).ops=c.ops∧(qdn sh c at_ vs).fixed=c.fixed∧(qdn sh c at_ vs).begun=c.begun∧(qdn sh c at_ vs).deps=c.deps∧(qdn sh c at_ vs).told=c.told∧(qdn sh c at_ vs).known=c.known
 | [],_,_=>by unfold qdn;exact ⟨rfl,rfl,rfl,rfl,rfl,rfl⟩
 | _::_,[],_=>by unfold qdn;exact ⟨rfl,rfl,rfl,rfl,rfl,rfl⟩
 | k::at_,v::vs,c=>by
  unfold qdn
  have h1:=doneL_same (sh:=sh) (at_:=at_) (vs:=vs) (c:=qbr sh c k v)
  have h2:=qfp (sh:=sh) (c:=c) (k:=k) (v:=v)
  exact ⟨h1.1.trans h2.1,h1.2.1.trans h2.2.1,h1.2.2.1.trans h2.2.2.1,h1.2.2.2.1.trans h2.2.2.2.1,h1.2.2.2.2.1.trans h2.2.2.2.2.1,h1.2.2.2.2.2.trans h2.2.2.2.2.2⟩
structure AtOk (f:GFrame):Prop where
 len:f.at_.length=f.vals.length
 small:f.at_.length≤4
 mem : ∀ n∈f.at_,0≤n∧n<4
theorem qwt {f:GFrame} (h:qak f=0):AtOk f:=by
 have:=qx0 h
 obtain ⟨_,_,_,_,h1,h2,h3,_,_⟩:=this
 exact ⟨h3.symm,h1,fun n hn=>by have:=h2 n hn;omega⟩
theorem qkg {f:GFrame} (hf:AtOk f) : ∀ (n m k:Nat) (c:GCase),f.at_.length=k+m→m<n→c.ops.length≤4→c.fixed=true→qbb f n c k=some (qdn (ofZ f.node) c (f.at_.drop k) (f.vals.drop k),[],0)
 | 0,m,k,c,_,h,_,_=>absurd h (by omega)
 | n+1,0,k,c,hk,_,_,_=>by
  rw [qbb,qad (qae (by omega)),List.drop_of_length_le (by omega),qaa]
  rfl
 | n+1,m+1,k,c,hk,hn,hc,hfx=>by
  have hlt:k<f.at_.length:=by omega
  have hlv:k<f.vals.length:=by have:=hf.len;omega
  have ih:=fun c h1 h2=>qkg hf n m (k+1) c (by omega) (by omega) h1 h2
  have hw:IntKind.wrap .i64 ((k:Int)+1)=((k+1:Nat):Int):=by have:=hf.small;rw [qds (by omega) (by omega)];omega
  rw [qbb,qaj (qaf (by omega)),qbm,List.getElem?_eq_getElem hlt,qaa,qaj hfx,List.drop_eq_getElem_cons hlt,List.drop_eq_getElem_cons hlv]
  have hx:=hf.mem f.at_[k] (List.getElem_mem _)
  simp only [qc9,qeu,hw,qdn]
  generalize f.at_[k]=x at hx
  have hd:=qfp (sh:=ofZ f.node) (c:=c) (k:=x) (v:=f.vals[k])
  have ihd:=ih (qbr (ofZ f.node) c x f.vals[k]) (by rw [hd.1];exact hc) (by rw [hd.2.1];exact hfx)
  by_cases h1:x<(c.ops.length:Int)
  ·obtain ⟨o,ho⟩ : ∃ o,idx c.ops x=some o:=by
    unfold idx
    rw [if_pos hx.1]
    exact ⟨_,List.getElem?_eq_getElem (by omega)⟩
   rw [qaj (qaf h1),ho,qaa,qaa,qaa]
   cases h2:(qas o.key==ofZ f.node)
   ·rw [← ihd]
    simp only [cond_false,qbr,ho,Option.map_some,Option.getD_some,h2,Bool.false_and,Bool.and_false]
   ·rw [qaj (by rfl),qa4 hx.1 hx.2,qaa,qsn hx.1 hx.2,qaa]
    cases h3:qam c.has x.toNat
    ·rw [← ihd]
     have e:qbr (ofZ f.node) c x f.vals[k]={ c with has:=c.has.setIfInBounds x.toNat true,values:=c.values.setIfInBounds x.toNat f.vals[k] }:=by
      simp only [qbr,ho,Option.map_some,Option.getD_some,h2,h3,qaf h1,Bool.not_false,Bool.true_and,cond_true]
     rw [e]
     simp only [Bool.not_false,cond_true]
     rw [qbm,List.getElem?_eq_getElem hlv,qaa,qaa,qbt hx.1 hx.2,qaa,qaa,qaa,qx6 hx.1 hx.2,qaa,qbt hx.1 hx.2,qaa]
     rfl
    ·rw [← ihd]
     simp only [Bool.not_true,cond_false,qbr,ho,Option.map_some,Option.getD_some,h2,h3,Bool.and_false]
  ·rw [qad (qae h1),← ihd]
   simp only [cond_false,qbr,qae h1,Bool.false_and]
theorem qkh {f:GFrame} (hf:AtOk f) : ∀ (n m k:Nat) (c:GCase),f.at_.length=k+m→m<n→c.fixed=false→qbb f n c k=some (c,[],0)
 | 0,m,k,c,_,h,_=>absurd h (by omega)
 | n+1,0,k,c,hk,_,_=>by rw [qbb,qad (qae (by omega)),qaa]
 | n+1,m+1,k,c,hk,hn,hfx=>by
  have hlt:k<f.at_.length:=by omega
  have ih:=qkh hf n m (k+1) c (by omega) (by omega) hfx
  have hw:IntKind.wrap .i64 ((k:Int)+1)=((k+1:Nat):Int):=by have:=hf.small;rw [qds (by omega) (by omega)];omega
  rw [qbb,qaj (qaf (by omega)),qbm,List.getElem?_eq_getElem hlt,qaa,qad hfx]
  simp only [qc9,qeu,hw,cond_false]
  exact ih
def qdo (c:GCase) (f:GFrame):GCase:={ c with told:=c.told.setIfInBounds f.node.toNat true,deps:=qgx c.deps f.deps }
def qnt (c:GCase):GCase:={ c with fixed:=qcb c }
def qa1 (c:GCase) (id:Int) (f:GFrame):GCase × List GFrame × Int :=
 bif f.kind==2 then
  bif c.fixed||(qam c.told f.node.toNat || !qac c.ops (ofZ f.node)) then (c,[],0)
  else (qnt (qdo c f),(bif (qnt (qdo c f)).fixed then qe9 (qnt (qdo c f)) id else []),0)
 else bif f.kind==4 then (bif c.fixed then ({ c with known:=c.known.setIfInBounds f.node.toNat true },[],0) else (c,[],0))
 else bif f.kind==5 then (bif c.fixed then (qdn (ofZ f.node) c f.at_ f.vals,[],0) else (c,[],0))
 else (c,[],3)
def qnu (c:GCase) (id:Int) (f:GFrame):Bool:=qc3 c&&(c.begun&&(f.id==id && !qcp c.deps id))
def qbz (c:GCase) (id:Int) (f:GFrame):GCase × List GFrame × Int :=
 bif qnu c id f then (bif qak f==0 then qa1 c id f else (c,[],qak f)) else (c,[],2)
theorem qut {fu:Nat} {c:GCase} {id:Int} {f:GFrame} (hf:7≤fu):qi3 fu c id f=some (qbz c id f):=by
 unfold qi3 qbz qnu qdu
 rw [qje]
 simp only [qaa]
 cases hg:qc3 c
 ·rfl
 ·cases hb:c.begun
  ·rfl
  ·by_cases hid:f.id=id
   ·have e1:(f.id != id)=false:=by simp [hid]
    have e2:(f.id==id)=true:=by simp [hid]
    rw [e1,e2]
    cases hh:qcp c.deps id
    ·simp only [Bool.not_true,Bool.not_false,Bool.and_true,cond_true,cond_false,qhz,qaa]
     by_cases hz:qak f=0
     ·have hin:=qa6 hz
      have hat:=qwt hz
      have hl:=qoa hg hb
      have e3:(qak f != 0)=false:=by simp [hz]
      have e4:(qak f==0)=true:=by simp [hz]
      rw [e3,e4]
      simp only [cond_false,cond_true,qa1]
      cases hk2:(f.kind==2)
      ·simp only [cond_false]
       cases hk4:(f.kind==4)
       ·simp only [cond_false]
        cases hk5:(f.kind==5)
        ·rfl
        ·simp only [cond_true]
         cases hfx:c.fixed
         ·exact qkh hat fu f.at_.length 0 c (by omega) (by have:=hat.small;omega) hfx
         ·exact qkg hat fu f.at_.length 0 c (by omega) (by have:=hat.small;omega) hl hfx
       ·simp only [cond_true]
        cases hfx:c.fixed
        ·rfl
        ·simp only [cond_true]
         rw [qa4 hin.2.1.1 hin.2.1.2,qaa,qsn hin.2.1.1 hin.2.1.2,qaa,qbt hin.2.1.1 hin.2.1.2,qaa]
         rfl
      ·simp only [cond_true]
       cases hfx:c.fixed
       ·simp only [cond_false,Bool.false_or]
        rw [qa4 hin.2.1.1 hin.2.1.2,qaa,qsn hin.2.1.1 hin.2.1.2,qaa]
        cases ht:qam c.told f.node.toNat
        ·simp only [cond_false,Bool.false_or,qaa,qet]
         cases hto:qac c.ops (ofZ f.node)
         ·rfl
         ·simp only [Bool.not_true,cond_false,qhx]
          rw [qa4 hin.2.1.1 hin.2.1.2,qaa,qsn hin.2.1.1 hin.2.1.2,qaa,qbt hin.2.1.1 hin.2.1.2,qaa,qaa,qaa,qaa,qzs hf,qaa,qaa]
          have e5:({ c with told:=c.told.setIfInBounds f.node.toNat true,deps:=qgx c.deps f.deps,fixed:=qcb (qdo c f) }:GCase)=qnt (qdo c f):=rfl
          have e6:(qnt (qdo c f)).fixed=qcb (qdo c f):=rfl
          have ha:=qpx (c:=qnt (qdo c f)) (id:=id) hf
          cases he:qcb (qdo c f)
          ·rw [he] at e5 e6
           rw [e6]
           have he':qcb { c with told:=c.told.setIfInBounds f.node.toNat true,deps:=qgx c.deps f.deps }=false:=he
           rw [he']
           simp only [Bool.not_false,cond_true,cond_false,qaa]
           rw [← e5]
          ·rw [he] at e5 e6
           rw [e6]
           have he':qcb { c with told:=c.told.setIfInBounds f.node.toNat true,deps:=qgx c.deps f.deps }=true:=he
           rw [he']
           simp only [Bool.not_true,cond_true,cond_false,qaa]
           rw [← e5] at ha ⊢
           rw [ha]
           rfl
        ·rfl
       ·rfl
     ·have e3:(qak f != 0)=true:=by simp [hz]
      have e4:(qak f==0)=false:=by simp [hz]
      rw [e3,e4]
      rfl
    ·rfl
   ·have e1:(f.id != id)=true:=by simp [hid]
    have e2:(f.id==id)=false:=by simp [hid]
    rw [e1,e2]
    rfl
theorem takeOk_small {c:GCase} {id:Int} {f:GFrame}:(qa1 c id f).1.ops=c.ops∧(qa1 c id f).2.1.length≤6 ∧ ∀ x∈(qa1 c id f).2.1,x.ops.length≤4:=by
 unfold qa1
 cases (f.kind==2)
 ·cases (f.kind==4)
  ·cases (f.kind==5)
   ·exact ⟨rfl,Nat.zero_le _,by simp⟩
   ·cases c.fixed
    ·exact ⟨rfl,Nat.zero_le _,by simp⟩
    ·exact ⟨doneL_same.1,Nat.zero_le _,by simp⟩
  ·cases c.fixed
   ·exact ⟨rfl,Nat.zero_le _,by simp⟩
   ·exact ⟨rfl,Nat.zero_le _,by simp⟩
 ·cases (c.fixed||(qam c.told f.node.toNat || !qac c.ops (ofZ f.node)))
  ·cases (qnt (qdo c f)).fixed
   ·exact ⟨rfl,Nat.zero_le _,by simp⟩
   ·exact ⟨rfl,againC_small.1,againC_small.2⟩
  ·exact ⟨rfl,Nat.zero_le _,by simp⟩
theorem qwu {c:GCase} {id:Int} {f:GFrame}:(qbz c id f).1.ops=c.ops∧(qbz c id f).2.1.length≤6 ∧ ∀ x∈(qbz c id f).2.1,x.ops.length≤4:=by
 unfold qbz
 cases qnu c id f
 ·exact ⟨rfl,Nat.zero_le _,by simp⟩
 ·cases (qak f==0)
  ·exact ⟨rfl,Nat.zero_le _,by simp⟩
  ·exact takeOk_small
end Go.Proofs.Yteilffoclpgijaa
namespace Go.Proofs.Yteilffoclpgijaa
open Go.RowKit
open Rep (rep)
def vat (v:Vector Int 8) (k:Nat):Int:=v[k]?.getD 0
theorem q9a {v:Vector Int 8} {j:Int} (h0:0≤j) (h1:j<8):qa7 v j=some (vat v j.toNat):=qx6 h0 h1
theorem qso {v:Vector Int 8} {k j:Nat} {x:Int} (hk:k<8):vat (v.setIfInBounds k x) j=if k=j then x else vat v j:=by
 unfold vat
 rw [Vector.getElem?_setIfInBounds]
 by_cases e:k=j
 ·rw [if_pos e,if_pos e,if_pos hk];rfl
 ·rw [if_neg e,if_neg e]
theorem qbd {v:Vector GEntry 32} {k j:Nat} {x:GEntry} (hk:k<32):eat (v.setIfInBounds k x) j=if k=j then x else eat v j:=by
 unfold eat
 rw [Vector.getElem?_setIfInBounds]
 by_cases e:k=j
 ·rw [if_pos e,if_pos e,if_pos hk];rfl
 ·rw [if_neg e,if_neg e]
theorem q7f {v:Vector GEntry 32} {k:Nat} {x:GEntry} (hk:k<32):qe2 v (k:Int) x=some (v.setIfInBounds k x):=qbt (by omega) (by omega)
def qdf (sh:Int):Nat→List GOp→Vector Int 8→List Int→List Int→Vector Int 8 × List Int × List Int
 | _,[],v,a,b=>(v,a,b)
 | i,o::t,v,a,b=>bif qas o.key==sh then qdf sh (i+1) t (v.setIfInBounds o.key.toNat (doZ (vat v o.key.toNat) o)) (a++[(i:Int)]) (b++[doZ (vat v o.key.toNat) o]) else qdf sh (i+1) t v a b
def qgn (e:GEntry) (a b:List Int):GEntry:={ e with state:=3,at_:=a,values:=b }
def qpy (s:GNode) (n:Nat) (v:Vector Int 8) (a b:List Int):GNode:={ entries:=s.entries.setIfInBounds n (qgn (eat s.entries n) a b),order:=s.order,values:=v }
def q0b (s:GNode) (n:Nat) (sh:Int):GNode :=
 { entries:=s.entries.setIfInBounds n (qgn (eat s.entries n) (qdf sh 0 (eat s.entries n).ops s.values [] []).2.1 (qdf sh 0 (eat s.entries n).ops s.values [] []).2.2),order:=s.order++[(n:Int)],values:=(qdf sh 0 (eat s.entries n).ops s.values [] []).1 }
theorem qx7 {s:GNode} {n:Nat} {v:Vector Int 8} {a b a' b':List Int} {e:GEntry} (he:e=qgn (eat s.entries n) a' b'):({ entries:=(qpy s n v a b).entries.setIfInBounds n e,order:=(qpy s n v a b).order,values:=(qpy s n v a b).values }:GNode)=qpy s n v a' b':=by
 unfold qpy
 simp only [Vector.setIfInBounds_setIfInBounds,he]
theorem q6u {s:GNode} {n:Nat} {v:Vector Int 8} {a b a':List Int} :
  ({ entries:=(qpy s n v a b).entries.setIfInBounds n { state:=(qgn (eat s.entries n) a b).state,ops:=(qgn (eat s.entries n) a b).ops,first:=(qgn (eat s.entries n) a b).first,deps:=(qgn (eat s.entries n) a b).deps,at_:=a',values:=(qgn (eat s.entries n) a b).values },order:=(qpy s n v a b).order,values:=v }:GNode)=qpy s n v a' b:=qx7 rfl
theorem q6v {s:GNode} {n:Nat} {v:Vector Int 8} {a b b':List Int} :
  ({ entries:=(qpy s n v a b).entries.setIfInBounds n { state:=(qgn (eat s.entries n) a b).state,ops:=(qgn (eat s.entries n) a b).ops,first:=(qgn (eat s.entries n) a b).first,deps:=(qgn (eat s.entries n) a b).deps,at_:=(qgn (eat s.entries n) a b).at_,values:=b' },order:=(qpy s n v a b).order,values:=(qpy s n v a b).values }:GNode)=qpy s n v a b':=qx7 rfl
theorem qx8 {s:GNode} {n:Nat} (hn:n<32) {v:Vector Int 8} {a b:List Int}:eat (qpy s n v a b).entries n=qgn (eat s.entries n) a b:=by
 unfold qpy
 rw [qbd hn,if_pos rfl]
def KeyOk (l:List GOp):Prop := ∀ o∈l,0≤o.key∧o.key<8
theorem KeyOk.of {l:List GOp} (h:qap l=true):KeyOk l:=fun o ho=>by have:=qpc h o ho;omega
theorem ql0 {s:GNode} {n:Nat} (hn:n<32) {sh:Int} {e0:GEntry} (he:e0=qgn (eat s.entries n) [] []) (hk:KeyOk (eat s.entries n).ops) (hl:(eat s.entries n).ops.length≤4) (ho:s.order.length≤1000) : ∀ (q m k:Nat) (v:Vector Int 8) (a b:List Int),(eat s.entries n).ops.length=k+m→m<q→a.length≤k→b.length=a.length →
  qcl n sh e0 q (qpy s n v a b) k=some { qpy s n (qdf sh k ((eat s.entries n).ops.drop k) v a b).1 (qdf sh k ((eat s.entries n).ops.drop k) v a b).2.1 (qdf sh k ((eat s.entries n).ops.drop k) v a b).2.2 with order:=s.order++[(n:Int)] }
 | 0,m,k,v,a,b,_,h,_,_=>absurd h (by omega)
 | q+1,0,k,v,a,b,hkm,_,_,_=>by
  have hb:Rep.bytes Int=8:=rfl
  have hord:(qpy s n v a b).order=s.order:=rfl
  have e1:e0.ops=(eat s.entries n).ops:=by rw [he];rfl
  rw [qcl,e1,qad (qae (by omega)),List.drop_of_length_le (by omega),qbx (by rw [hb,hord];simp only [List.length_singleton];omega)]
  rfl
 | q+1,m+1,k,v,a,b,hkm,hq,ha,hbl=>by
  have hb:Rep.bytes Int=8:=rfl
  have hlt:k<(eat s.entries n).ops.length:=by omega
  have hx:(eat s.entries n).ops[k]? = some (eat s.entries n).ops[k]:=List.getElem?_eq_getElem hlt
  have hkey:=hk _ (List.getElem_mem hlt)
  have e0:e0.ops=(eat s.entries n).ops:=by rw [he];rfl
  have ih:=fun v a b ha hb=>ql0 hn (sh:=sh) he hk hl ho q m (k+1) v a b (by omega) (by omega) ha hb
  rw [qcl,e0,qaj (qaf (by omega)),qbm,hx,qaa,qaa,qaa,List.drop_eq_getElem_cons hlt]
  simp only [qjr,qg3,wrs k (by omega),qdf]
  generalize (eat s.entries n).ops[k]=o at hkey
  cases h1:(qas o.key==sh)
  ·rw [cond_false,cond_false,ih v a b (by omega) hbl]
  ·have hv:(qpy s n v a b).values=v:=rfl
   rw [cond_true,cond_true,qa4 hkey.1 hkey.2,qaa,hv,q9a hkey.1 hkey.2,qaa,qaa,qaa,qaa,qbt hkey.1 hkey.2,qaa,qaa]
   have hm:({ entries:=(qpy s n v a b).entries,order:=(qpy s n v a b).order,values:=v.setIfInBounds o.key.toNat (doZ (vat v o.key.toNat) o) }:GNode)=qpy s n (v.setIfInBounds o.key.toNat (doZ (vat v o.key.toNat) o)) a b:=rfl
   rw [hm]
   generalize hv2:v.setIfInBounds o.key.toNat (doZ (vat v o.key.toNat) o)=v2
   have hvv:vat v2 o.key.toNat=doZ (vat v o.key.toNat) o:=by rw [← hv2,qso (by omega),if_pos rfl]
   have hv':(qpy s n v2 a b).values=v2:=rfl
   rw [qwq hn,qaa,qaa,qaa,hv',q9a hkey.1 hkey.2,qaa,qx8 hn,hvv]
   have e1:(qgn (eat s.entries n) a b).at_=a:=rfl
   have e2:(qgn (eat s.entries n) a b).values=b:=rfl
   rw [e1,e2,qbx (by rw [hb];simp only [List.length_singleton];omega),qaa,qbx (by rw [hb];simp only [List.length_singleton];omega),qaa,qaa,q7f hn,qaa,qaa]
   rw [q6u,qwq hn,qaa,qx8 hn,q7f hn,qaa,qaa,q6v]
   exact ih v2 _ _ (by simp;omega) (by simp [hbl])
theorem qwv {fu:Nat} {s:GNode} {n:Nat} (hn:n<32) {sh:Int} (hk:KeyOk (eat s.entries n).ops) (hl:(eat s.entries n).ops.length≤4) (ho:s.order.length≤1000) (hfu:5≤fu):qli fu s n sh=some (q0b s n sh):=by
 unfold qli
 have h:=ql0 hn (sh:=sh) (e0:=qgn (eat s.entries n) [] []) rfl hk hl ho fu (eat s.entries n).ops.length 0 s.values [] [] (by omega) (by omega) (by simp) rfl
 have h:qcl n sh (qgn (eat s.entries n) [] []) fu (qpy s n s.values [] []) 0=some (q0b s n sh):=h
 have e1 : ∀ (x:GEntry),({ s with entries:=s.entries.setIfInBounds n x }:GNode).entries=s.entries.setIfInBounds n x:=fun _=>rfl
 rw [qa4 (by omega) (by omega),qaa,qwq hn,qaa,q7f hn,qaa,qaa]
 rw [e1,qwq hn,qaa,qbd hn,if_pos rfl,q7f hn,qaa,qaa]
 simp only [Vector.setIfInBounds_setIfInBounds]
 rw [qwq hn,qaa,qbd hn,if_pos rfl,q7f hn,qaa,qaa]
 simp only [Vector.setIfInBounds_setIfInBounds]
 rw [qwq hn,qaa,qbd hn,if_pos rfl]
 rw [← h]
 rfl
theorem q2f {m:Int} : ∀ {l:List Int} {b b':Int},b'≤b→qvm m b l=true→qvm m b' l=true
 | [],_,_,_,_=>rfl
 | x::t,b,b',h,ha=>by
  unfold qvm at *
  simp only [Bool.and_eq_true,decide_eq_true_eq] at *
  exact ⟨⟨by omega,ha.1.2⟩,ha.2⟩
theorem qsp {sh:Int} : ∀ (l:List GOp) (i:Nat) (v:Vector Int 8) (a b:List Int),∃ L,(qdf sh i l v a b).2.1=a++L∧qvm ((i+l.length:Nat):Int) ((i:Int)-1) L=true∧(qdf sh i l v a b).2.2.length=b.length+L.length
 | [],i,v,a,b=>⟨[],by simp [qdf],rfl,by simp [qdf]⟩
 | o::t,i,v,a,b=>by
  unfold qdf
  cases h:(qas o.key==sh)
  ·obtain ⟨L,h1,h2,h3⟩:=qsp t (i+1) v a b
   rw [cond_false]
   refine ⟨L,h1,?_,h3⟩
   rw [show i+(o::t).length=i+1+t.length from by simp;omega]
   exact q2f (by omega) h2
  ·obtain ⟨L,h1,h2,h3⟩:=qsp t (i+1) (v.setIfInBounds o.key.toNat (doZ (vat v o.key.toNat) o)) (a++[(i:Int)]) (b++[doZ (vat v o.key.toNat) o])
   rw [cond_true]
   refine ⟨(i:Int)::L,by rw [h1];simp,?_,by rw [h3];simp;omega⟩
   rw [show i+(o::t).length=i+1+t.length from by simp;omega]
   unfold qvm
   simp only [Bool.and_eq_true,decide_eq_true_eq]
   refine ⟨⟨by omega,by omega⟩,?_⟩
   rw [show (i:Int)=((i+1:Nat):Int)-1 from by omega]
   exact h2
theorem entryOk_iff {k:Int} {e:GEntry} {t:Bool}:qgg k e t=true↔(0≤e.state∧e.state≤3)∧(e.state=3↔t=true)∧qrh k e=true:=by
 unfold qgg
 simp only [Bool.and_eq_true,decide_eq_true_eq]
 refine and_congr_right fun _=>and_congr_left fun _ => ?_
 cases t<;>simp
structure Body (k:Int) (e:GEntry):Prop where
 ops:qap e.ops=true
 first:qav e.first=true
 deps:qav e.deps=true
 nfirst:qcp e.first k=false
 ndeps:qcp e.deps k=false
 asked:e.state=1→e.deps=[]
 undone:e.state≠3→e.at_=[]
 same:e.at_.length=e.values.length
 up:qvm e.ops.length (-1) e.at_=true
theorem body_iff {k:Int} {e:GEntry}:qup k e=true↔Body k e:=by
 unfold qup
 simp only [Bool.and_eq_true,Bool.not_eq_true']
 constructor
 ·rintro ⟨h1,h2,h3,h4,h5,h6,h7,h8,h9⟩
  refine ⟨h1,h2,h3,h4,h5,fun h => ?_,fun h => ?_,?_,h9⟩
  ·rw [h] at h6
   simpa using h6
  ·have:(e.state != 3)=true:=by simpa using h
   rw [this] at h7
   simpa using h7
  ·simp only [bne_eq_false_iff_eq] at h8;omega
 ·rintro ⟨h1,h2,h3,h4,h5,h6,h7,h8,h9⟩
  refine ⟨h1,h2,h3,h4,h5,?_,?_,?_,h9⟩
  ·by_cases h:e.state=1
   ·rw [h6 h];simp
   ·simp [h]
  ·by_cases h:e.state=3
   ·rw [h];rfl
   ·rw [h7 h];simp
  ·simp only [bne_eq_false_iff_eq];omega
theorem GoodN.body {s:GNode} (h:GoodN s) {k:Nat} (hk:k<32) (h0:(eat s.entries k).state≠0):Body k (eat s.entries k):=by
 have:=(entryOk_iff.1 (h.ent k hk)).2.2
 unfold qrh at this
 rw [qad (by simpa using h0)] at this
 exact body_iff.1 this
theorem GoodN.state {s:GNode} (h:GoodN s) {k:Nat} (hk:k<32):0≤(eat s.entries k).state∧(eat s.entries k).state≤3:=(entryOk_iff.1 (h.ent k hk)).1
theorem GoodN.done {s:GNode} (h:GoodN s) {k:Nat} (hk:k<32):(eat s.entries k).state=3↔(k:Int)∈s.order:=by
 rw [(entryOk_iff.1 (h.ent k hk)).2.1];simp
theorem emptyE_iff {e:GEntry}:qrg e=true↔e.ops=[]∧e.first=[]∧e.deps=[]∧e.at_=[]∧e.values=[]:=by
 unfold qrg
 simp [List.length_eq_zero_iff]
theorem GoodN.empty {s:GNode} (h:GoodN s) {k:Nat} (hk:k<32) (h0:(eat s.entries k).state=0):(eat s.entries k).ops=[]∧(eat s.entries k).first=[]∧(eat s.entries k).deps=[]∧(eat s.entries k).at_=[]∧(eat s.entries k).values=[]:=by
 have:=(entryOk_iff.1 (h.ent k hk)).2.2
 unfold qrh at this
 rw [qaj (by simpa using h0)] at this
 exact emptyE_iff.1 this
theorem qsq {l:List Int} (h:l.Nodup) (hr : ∀ m∈l,0≤m∧m<32):l.length≤32:=by
 have h1:(l.map Int.toNat).Nodup:=by
  refine List.pairwise_map.2 (h.imp_of_mem fun {a b} ha hb hab => ?_)
  have:=hr a ha
  have:=hr b hb
  omega
 have:=qhd 32 (l.map Int.toNat) h1 fun x hx=>by
  obtain ⟨y,hy,rfl⟩:=List.mem_map.1 hx
  have:=hr y hy
  omega
 simpa using this
theorem GoodN.len {s:GNode} (h:GoodN s):s.order.length≤32:=qsq h.nodup h.inr
theorem GoodN.set {s t:GNode} (h:GoodN s) {n:Nat} (hn:n<32) {e:GEntry} (he:t.entries=s.entries.setIfInBounds n e) (ho:t.order=s.order) (h3:(eat s.entries n).state≠3) (h1:1≤e.state∧e.state≤2) (hb:Body n e):GoodN t:=by
 refine ⟨by rw [ho];exact h.nodup,by rw [ho];exact h.inr,fun k hk => ?_⟩
 rw [he,ho,qbd hn]
 by_cases e':n=k
 ·subst e'
  rw [if_pos rfl]
  refine entryOk_iff.2 ⟨by omega,⟨fun h=>by omega,fun hm => ?_⟩,?_⟩
  ·exact absurd ((h.done hn).2 (by simpa using hm)) h3
  ·unfold qrh
   rw [qad (by simp;omega)]
   exact body_iff.2 hb
 ·rw [if_neg e']
  exact h.ent k hk
theorem GoodN.one {s:GNode} (h:GoodN s) {n:Nat} (hn:n<32) (h2:(eat s.entries n).state=2) (sh:Int):GoodN (q0b s n sh):=by
 have hb:=h.body hn (by omega)
 have hno:(n:Int)∉s.order:=fun hm=>by have:=(h.done hn).2 hm;omega
 refine ⟨?_,?_,fun k hk => ?_⟩
 ·refine List.nodup_append.2 ⟨h.nodup,by simp,fun a ha b hb => ?_⟩
  rw [List.mem_singleton.1 hb]
  rintro rfl
  exact hno ha
 ·intro m hm
  rcases List.mem_append.1 hm with hm | hm
  ·exact h.inr m hm
  ·rw [List.mem_singleton.1 hm];omega
 ·show qgg k (eat (s.entries.setIfInBounds n _) k) (decide ((k:Int)∈s.order++[(n:Int)]))=true
  rw [qbd hn]
  by_cases e':n=k
  ·subst e'
   rw [if_pos rfl]
   obtain ⟨L,a1,a2,a3⟩:=qsp (sh:=sh) (eat s.entries n).ops 0 s.values [] []
   refine entryOk_iff.2 ⟨(show (0:Int)≤3∧(3:Int)≤3 by decide),⟨fun _=>by simp,fun _=>rfl⟩,?_⟩
   show (bif false then _ else qup _ _)=true
   rw [cond_false]
   refine body_iff.2 ⟨hb.ops,hb.first,hb.deps,hb.nfirst,hb.ndeps,fun h => ?_,fun h=>absurd rfl h,?_,?_⟩
   ·have:(3:Int)=1:=h
    omega
   ·show (qdf sh 0 (eat s.entries n).ops s.values [] []).2.1.length=(qdf sh 0 (eat s.entries n).ops s.values [] []).2.2.length
    rw [a1,a3]
    simp
   ·show qvm _ (-1) (qdf sh 0 _ s.values [] []).2.1=true
    rw [a1,List.nil_append]
    rw [Nat.zero_add] at a2
    exact a2
  ·rw [if_neg e']
   have:decide ((k:Int)∈s.order++[(n:Int)])=decide ((k:Int)∈s.order):=by
    apply decide_eq_decide.2
    simp only [List.mem_append,List.mem_singleton]
    constructor
    ·rintro (h | h)
     ·exact h
     ·omega
    ·exact .inl
   rw [this]
   exact h.ent k hk
end Go.Proofs.Yteilffoclpgijaa
namespace Go.Proofs.Yteilffoclpgijaa
open Go.RowKit Go.ChangeShapes Go.WideShapes Go.ChangeAt Go.Deep
section
variable {H:Type} {enc:TypeId × Value→H} {P:Program} {w:World}
theorem qki {P:Program} {e:TypeId} : ∀ {ds:List (DataW H)} {d:DataW H},d∈ds → ∀ n∈d.weights P e,n∈DataW.weightsAll P e ds
 | d0::ds,d,hd,n,hn=>by
  simp only [DataW.weightsAll,List.mem_append]
  rcases List.mem_cons.1 hd with h | h
  ·subst h;exact .inl hn
  ·exact .inr (qki h n hn)
end
end Go.Proofs.Yteilffoclpgijaa
namespace Go.Proofs.Yteilffoclpgijaa
open Go.RowKit Go.ChangeShapes Go.WideShapes Go.ChangeAt Go.Deep
open Rep (rep)
theorem repL.fits {α : Type} [Rep α] {M:Mm} {v:Value} {l:List α} (h:repL M v l):l.length*Rep.bytes α ≤ 140737488351232:=by
 obtain ⟨_,_,_,_,_,h,_⟩:=h
 exact h
def wholeM (w:World):Mm:=fun b=>match w.heap[b]? with | some (.cells arr _ _)=>some arr.toList | _=>none
theorem wholeM_agree (w:World):Agree (wholeM w) w:=fun b p hb=>by
 unfold wholeM at hb
 split at hb
 ·rename_i arr t fr hh
  cases hb
  exact ⟨arr,t,fr,hh,List.prefix_refl _⟩
 ·cases hb
theorem qpz {H:Type} {P:Program} {ts:List TypeId} {ds:List (DataW H)} {j:Nat} {t:TypeId} {d:DataW H} (ht:ts[j]? = some t) (hd:ds[j]? = some d) : ∀ n∈d.weights P t,n∈DataW.weightsEach P ts ds:=DataW.weights_mem_each ht hd
def Opn (P:Program) (t:TypeId) (α : Type) [Rep α]:Prop :=
 P.cellsOf t=Rep.k α ∧ ∀ (H:Type) (enc:TypeId × Value→H) (w:World) (fuel:Nat) (cs:List Value) (d:DataW H) (p:List MemPlace),
  DataW.trod enc P w 0 (fun _=>true) true fuel t cs=some (d,p)→(∀ n∈d.weights P t,n≤reachBytes) → ∃ x : α,rep (wholeM w) cs x
section
variable {P:Program} {t e:TypeId} {α : Type} [Rep α]
theorem q6w (ht:P.underlying t=some (.int .i64)) (hc:P.cellsOf t=1):Opn P t Int:=⟨hc,fun H enc w fuel cs d p h hw=>by
 obtain ⟨n,rfl,_,_⟩:=DataW.trod_int ht h
 exact ⟨n,rfl⟩⟩
theorem q5i (a:Addr) (i:Nat):(a.add i).block=a.block∧(a.add i).off=a.off+i:=by
 unfold Addr.add
 split
 ·rename_i h;exact ⟨rfl,by rw [show i=0 by simpa using h];rfl⟩
 ·exact ⟨rfl,rfl⟩
theorem qww {w:World} {a:Addr} {k:Nat} {cs:List Value} (h:w.cells? 0 a k=some cs) (hk:0<k) :
  a.spot=none ∧ ∃ q,wholeM w a.block=some q∧a.off+k≤q.length∧sl q a.off k=cs:=by
 obtain ⟨_,hl,hat⟩:=World.cells?_some h
 have h0:=hat 0 hk
 rw [List.getElem?_eq_getElem (by omega)] at h0
 have hsp:a.spot=none:=by
  have:=World.cell?_spot h0
  simpa [Addr.add] using this
 refine ⟨hsp,?_⟩
 have hc : ∀ i,i<k → ∃ arr tt fr,w.heap[a.block]? = some (.cells arr tt fr)∧arr[a.off+i]? = cs[i]? := by
  intro i hi
  have hi':=hat i hi
  rw [List.getElem?_eq_getElem (by omega)] at hi' ⊢
  unfold World.cell? at hi'
  split at hi'
  ·rename_i arr tt fr hh
   rw [(q5i a i).1] at hh
   refine ⟨arr,tt,fr,hh,?_⟩
   split at hi'
   ·cases hi'
   ·rw [(q5i a i).2] at hi'
    exact hi'
  ·cases hi'
 obtain ⟨arr,tt,fr,hh,_⟩:=hc 0 hk
 have hall : ∀ i,i<k→arr[a.off+i]? = cs[i]? := by
  intro i hi
  obtain ⟨arr',tt',fr',hh',he⟩:=hc i hi
  rw [hh] at hh'
  cases hh'
  exact he
 have hlen:a.off+k≤arr.size:=by
  have:=hall (k-1) (by omega)
  rw [List.getElem?_eq_getElem (by omega)] at this
  have:=(Array.getElem?_eq_some_iff.1 this).1
  omega
 refine ⟨arr.toList,by simp [wholeM,hh],by simpa using hlen,?_⟩
 refine qkn fun j => ?_
 by_cases hj:j<k
 ·rw [qe1 _ _ _ _ hj]
  simpa using hall j hj
 ·rw [qbw _ _ _ _ (by omega),List.getElem?_eq_none (by omega)]
theorem quu (ht:P.underlying t=some (.slice e)) (hc:P.cellsOf t=1) (he:Opn P e α) (hk:0<Rep.k α) (hby:P.bytesOf e=Rep.bytes α):Opn P t (List α):=⟨hc,fun H enc w fuel cs d p h hw=>by
 rcases open_slice ht h with ⟨rfl,hx⟩ | ⟨a,len,cap,m,n,D,Pl,rfl,_,hl,hm,hmm,hx,hel⟩
 ·exact ⟨[],_,rfl,qk3 _⟩
 ·simp only [if_true] at hmm
  subst hmm
  simp only [Prod.mk.injEq] at hx
  rw [hx.1] at hw
  simp only [DataW.weights,ht,hby,List.mem_cons,List.mem_append,List.length_map,List.length_range] at hw
  have hw1:=hw _ (.inl rfl)
  unfold reachBytes at hw1
  have hone : ∀ i,i<len → ∃ x : α,∃ b off q,a.add (i*Rep.k α)=⟨b,off,none⟩∧wholeM w b=some q∧off+Rep.k α ≤ q.length∧rep (wholeM w) (sl q off (Rep.k α)) x:=by
   intro i him
   obtain ⟨cs',h1,h2⟩:=hel i (by omega)
   rw [he.1] at h1
   obtain ⟨hsp,q,hq,hlq,hsl⟩:=qww h1 hk
   obtain ⟨x,hxr⟩:=he.2 H enc w n cs' (D i) (Pl i) h2 fun nn hnn=>hw nn (.inr (.inl (qki (List.mem_map.2 ⟨i,List.mem_range.2 him,rfl⟩) _ hnn)))
   refine ⟨x,_,_,q,?_,hq,hlq,by rw [hsl];exact hxr⟩
   rw [← hsp]
  by_cases hz:len=0
  ·subst hz
   exact ⟨[],.slice (some a) 0 m,rfl,some a,m,rfl,by simp,(fun h=>by cases h),by simp,fun i x hx=>by simp at hx⟩
  have hspot : ∃ b off,a=⟨b,off,none⟩:=by
   obtain ⟨x,b,off,q,e1,_⟩:=hone 0 (by omega)
   obtain ⟨ab,ao,asp⟩:=a
   simp [Addr.add] at e1
   exact ⟨ab,ao,by rw [e1.2.2]⟩
  obtain ⟨b,off,rfl⟩:=hspot
  obtain ⟨x0,_⟩:=hone 0 (by omega)
  haveI:Inhabited α := ⟨x0⟩
  obtain ⟨V,hV⟩:=choose_lt (α := α) hone
  have hlen:((List.range len).map V).length=len:=by simp
  refine ⟨(List.range len).map V,.slice (some ⟨b,off,none⟩) len m,rfl,some ⟨b,off,none⟩,m,by rw [hlen],by rw [hlen];exact hl,(fun h=>by cases h),?_,fun i x hx => ?_⟩
  ·rw [hlen]
   exact Nat.le_trans (Nat.mul_le_mul_right _ (by omega:len≤len+(m-len))) hw1
  ·have hi:i<len:=by
    have:=(List.getElem?_eq_some_iff.1 hx).1
    omega
   have hxe:V i=x:=by simpa [hi] using hx
   obtain ⟨b',off',q,e1,hq,hlq,hr⟩:=hV i hi
   rw [Addr.add_lit] at e1
   cases e1
   exact ⟨_,_,q,rfl,hq,hlq,hxe ▸ hr⟩⟩
theorem qgi {H:Type} {enc:TypeId × Value→H} {w:World} {fuel:Nat} {cs:List Value} {d:DataW H} {p:List MemPlace} {fs:Array Field} (ht:P.underlying t=some (.struct fs))
  (h:DataW.trod enc P w 0 (fun _=>true) true fuel t cs=some (d,p)) (hw : ∀ n∈d.weights P t,n≤reachBytes) (i:Nat) (f:Field) (hf:fs[i]? = some f) {e:TypeId} {o k:Nat} (h1:f.type=e) (h2:f.offset=o) (hk:Rep.k α = k) (he:Opn P e α) :
  ∃ x : α,rep (wholeM w) (sl cs o k) x:=by
 subst hk
 subst h1
 subst h2
 obtain ⟨ys,n,_,hx,_,hyl,hfld⟩:=DataW.trod_struct ht h
 obtain ⟨rfl,rfl⟩:=Prod.mk.inj hx
 have hi:i<fs.size:=(Array.getElem?_eq_some_iff.1 hf).1
 have e0:=hfld i f hf
 rw [List.getElem?_eq_getElem (by omega),he.1] at e0
 refine he.2 H enc w n _ _ _ e0 fun nn hnn=>hw nn ?_
 simp only [DataW.weights,ht]
 refine qpz (j:=i) ?_ ?_ nn hnn
 ·simp only [List.getElem?_map];rw [Array.getElem?_toList,hf];rfl
 ·simp only [List.getElem?_map,List.getElem?_eq_getElem (show i<ys.length by omega),Option.map_some];rfl
theorem q6x (ho:Opn P t α) {H:Type} {enc:TypeId × Value→H} {w:World} {v:Value} {d:DataW H} {p:List MemPlace} (h:DataW.Trod enc P w 0 (fun _=>true) true t v d p) (hw:(d.weights P t).all (· ≤ reachBytes)=true) :
  ∃ x : α,rep (wholeM w) v.cells.toList x:=by
 obtain ⟨fuel,hf⟩:=h
 exact ho.2 H enc w fuel _ _ _ hf fun n hn=>of_decide_eq_true (List.all_eq_true.1 hw n hn)
theorem opn_row {e:TypeId} (ht:P.underlying t=some (.slice e)) (ho:Opn P t (List α)) {H:Type} {enc:TypeId × Value→H} {w:World} {v:Value} {d:DataW H} {p:List MemPlace} (hv:Value.okWide P w .any 0 t v)
  (h:DataW.Trod enc P w 0 (fun _=>true) true t v d p) (hw:(d.weights P t).all (· ≤ reachBytes)=true) : ∃ l:List α,repL (wholeM w) v l:=by
 obtain ⟨a,len,cap,rfl⟩:=okWide_slice ht hv
 obtain ⟨x,v',hx,hr⟩:=q6x ho h hw
 have:v' = .slice a len cap:=by simpa [Value.cells] using hx.symm
 subst this
 exact ⟨x,hr⟩
end
end Go.Proofs.Yteilffoclpgijaa
namespace Go.Proofs.Yteilffoclpgijaa
open Go.RowKit
open Rep (rep)
def g0:GGraph:={ known:=((Zr.zd:Vector Bool 32).setIfInBounds 1 true).setIfInBounds 2 true,deps:=((Zr.zd:Vector (List Int) 32).setIfInBounds 1 [2]).setIfInBounds 2 [1] }
end Go.Proofs.Yteilffoclpgijaa
namespace Go.Proofs.Yteilffoclpgijaa
open Go.RowKit
open Rep (rep)
def qkz (sh:Int) (s:GNode) (m:Nat):GNode:=bif (eat s.entries m).state==2 then q0b s m sh else s
def q0c (sh:Int) (s:GNode) (l:List Nat):GNode:=l.foldl (qkz sh) s
noncomputable def qwx (g:GGraph) (n:Nat):List Nat:=if qeg g (n:Int)=true then qkb (qa2 g) n else []
noncomputable def qil (g:GGraph) (sh:Int) (s:GNode) (n:Nat):GNode:=bif (eat s.entries n).state==2 then q0c sh s (qwx g n) else s
noncomputable def qqh (s:GNode) (sh:Int):GNode:=(List.range 32).foldl (qil (qbk s) sh) s
theorem quv (g:GGraph) (n:Nat):qx4 g (n:Int)=qcs (qwx g n):=by
 unfold qx4 qwx qcs
 by_cases h:qeg g (n:Int)=true
 ·rw [if_pos h,if_pos h,Int.toNat_natCast]
 ·rw [if_neg h,if_neg h]
  rfl
theorem qp0 {g:GGraph} {n:Nat} (hn:n<32) : ∀ m∈qwx g n,m<32:=by
 unfold qwx
 by_cases h:qeg g (n:Int)=true
 ·rw [if_pos h];exact (qpi (qdm g) hn).lt
 ·rw [if_neg h];simp
theorem qx9 {g:GGraph} {n:Nat} (hn:n<32):(qwx g n).length≤32:=by
 unfold qwx
 by_cases h:qeg g (n:Int)=true
 ·rw [if_pos h];exact (qpi (qdm g) hn).len
 ·rw [if_neg h];simp
theorem GoodN.step {s:GNode} (h:GoodN s) {m:Nat} (hm:m<32) (sh:Int):GoodN (qkz sh s m):=by
 unfold qkz
 cases h2:((eat s.entries m).state==2)
 ·exact h
 ·exact h.one hm (by simpa using h2) sh
theorem GoodN.run (sh:Int) : ∀ (l:List Nat) {s:GNode},GoodN s→(∀ m∈l,m<32)→GoodN (q0c sh s l)
 | [],_,h,_=>h
 | m::t,_,h,hl=>GoodN.run sh t (h.step (hl m List.mem_cons_self) sh) fun x hx=>hl x (List.mem_cons_of_mem _ hx)
theorem GoodN.turn {s:GNode} (h:GoodN s) {n:Nat} (hn:n<32) (g:GGraph) (sh:Int):GoodN (qil g sh s n):=by
 unfold qil
 cases ((eat s.entries n).state==2)
 ·exact h
 ·exact h.run sh _ (qp0 hn)
theorem GoodN.turns (g:GGraph) (sh:Int) : ∀ (l:List Nat) {s:GNode},GoodN s→(∀ m∈l,m<32)→GoodN (l.foldl (qil g sh) s)
 | [],_,h,_=>h
 | m::t,_,h,hl=>GoodN.turns g sh t (h.turn (hl m List.mem_cons_self) g sh) fun x hx=>hl x (List.mem_cons_of_mem _ hx)
theorem GoodN.exec {s:GNode} (h:GoodN s) (sh:Int):GoodN (qqh s sh):=h.turns _ sh _ fun m hm=>List.mem_range.1 hm
theorem q2g (l:List Nat) (k:Nat):(qcs l)[k]? = (l[k]?).map fun m=>((m:Nat):Int):=by simp [qcs]
theorem q4t {s:GNode} (h:GoodN s) {m:Nat} (hm:m<32) (h2:((eat s.entries m).state==2)=true):KeyOk (eat s.entries m).ops∧(eat s.entries m).ops.length≤4:=by
 have h2:(eat s.entries m).state=2:=by simpa using h2
 have hb:=h.body hm (by omega)
 exact ⟨KeyOk.of hb.ops,(qci hb.ops).2⟩
theorem qkj {fu:Nat} (hfu:5≤fu) {sh y:Int} {rec:GNode→Int→Option GNode} {l:List Nat} (hl : ∀ m∈l,m<32) (hlen:l.length≤32) : ∀ (q m k:Nat) (s:GNode),l.length=k+m→m<q→GoodN s→qb9 fu sh y rec (qcs l) q s k=qcq y rec (q0c sh s (l.drop k))
 | 0,m,k,s,_,h,_=>absurd h (by omega)
 | q+1,0,k,s,hk,_,_=>by
  rw [qb9,qly,qad (qae (by omega)),List.drop_of_length_le (by omega)]
  rfl
 | q+1,m+1,k,s,hk,hq,hs=>by
  have hlt:k<l.length:=by omega
  have hm:=hl _ (List.getElem_mem hlt)
  have ih:=fun s hs=>qkj (y:=y) (rec:=rec) (sh:=sh) hfu hl hlen q m (k+1) s (by omega) (by omega) hs
  rw [qb9,qly,qaj (qaf (by omega)),qbm,q2g,List.getElem?_eq_getElem hlt,List.drop_eq_getElem_cons hlt]
  generalize l[k]=x at hm
  simp only [Option.map_some,qaa,qf7,wrs k (by omega)]
  rw [qa4 (by omega) (by omega),qaa,qwq hm,qaa]
  show _=qcq y rec (q0c sh (qkz sh s x) (l.drop (k+1)))
  have hst:=hs.step hm sh
  unfold qkz at hst ⊢
  cases h2:((eat s.entries x).state==2)
  ·rw [cond_false,cond_false,ih s hs]
  ·rw [h2,cond_true] at hst
   obtain ⟨b1,b2⟩:=q4t hs hm h2
   rw [cond_true,cond_true,qwv hm b1 b2 (by have:=hs.len;omega) hfu,qaa,ih _ hst]
theorem qkk {fu N:Nat} {g:GGraph} (hg:qns g N) (hfu:N+80≤fu) {sh:Int} : ∀ (q m k:Nat) (s:GNode),k+m=32→m<q→GoodN s→qbo fu sh g q s k=some ((List.range' k m).foldl (qil g sh) s)
 | 0,m,k,s,_,h,_=>absurd h (by omega)
 | q+1,0,k,s,hk,_,_=>by rw [qbo,qad (qae (by omega)),qaa];rfl
 | q+1,m+1,k,s,hk,hq,hs=>by
  have hk32:k<32:=by omega
  have ih:=fun s hs=>qkk hg hfu (sh:=sh) q m (k+1) s (by omega) (by omega) hs
  rw [qbo,qaj (qaf (by omega)),qa4 (by omega) (by omega),qaa,qwq hk32,qaa,List.range'_succ,List.foldl_cons]
  have hne:((eat s.entries k).state != 2) = !((eat s.entries k).state==2):=rfl
  have ht:=hs.turn hk32 g sh
  rw [hne]
  unfold qil at ht ⊢
  cases h2:((eat s.entries k).state==2)
  ·rw [Bool.not_false,cond_true,cond_false,qcq,wrs k (by omega),ih s hs]
   rfl
  ·rw [h2,cond_true] at ht
   rw [Bool.not_true,cond_false,cond_true,qzp hg hfu,qaa,quv]
   have h:=qkj (fu:=fu) (sh:=sh) (y:=(k:Int)) (rec:=qbo fu sh g q) (by omega) (qp0 (g:=g) hk32) (qx9 (g:=g) hk32) fu (qwx g k).length 0 s (by omega) (by have:=qx9 (g:=g) hk32;omega) hs
   have h:qb9 fu sh k (qbo fu sh g q) (qcs (qwx g k)) fu s 0=qcq k (qbo fu sh g q) (q0c sh s (qwx g k)):=h
   rw [h,qcq,wrs k (by omega),ih _ ht]
   rfl
theorem GoodN.small {s:GNode} (h:GoodN s):qns (qbk s) 33:=by
 intro a
 by_cases ha:a<32
 ·rw [qce ha]
  by_cases h0:(eat s.entries a).state=0
  ·rw [(h.empty ha h0).2.2.1];simp
  ·have:=qhc (h.body ha h0).deps
   omega
 ·unfold qa8
  rw [dif_neg ha]
  exact ⟨by simp,by simp⟩
theorem qcu {fu:Nat} {l:List Int} (h:l.length≤17592186043904):qb7 fu l=some l:=by
 have hb:Rep.bytes Int=8:=rfl
 unfold qb7
 rw [qbx (by rw [hb];simp only [List.length_nil];omega)]
 rfl
theorem quw {fu:Nat} {s:GNode} (hs:GoodN s) (hfu:120≤fu) (sh:Int):qi0 fu s sh=some (qqh s sh):=by
 unfold qi0
 rw [qsm (by omega),qaa,qaa,qcu (by have:=hs.len;omega),qaa,qaa]
 have h:=qkk (fu:=fu) hs.small (by omega) (sh:=sh) fu 32 0 s (by omega) (by omega) hs
 unfold qqh
 rw [List.range_eq_range']
 exact h
def qjh (who id:Int):GFrame:={ kind:=4,node:=who,id:=id,ops:=[],deps:=[],at_:=[],vals:=[] }
def qwy (who id:Int) (x:GEntry):GFrame:={ kind:=5,node:=who,id:=id,ops:=[],deps:=[],at_:=x.at_,vals:=x.values }
def qwz (who id:Int) (l:List Int):GFrame:={ kind:=2,node:=who,id:=id,ops:=[],deps:=l,at_:=[],vals:=[] }
def qc0 (sh who id:Int) (s:GNode):List GFrame:=bif (eat s.entries id.toNat).state==3&&qac (eat s.entries id.toNat).ops sh then [qjh who id,qwy who id (eat s.entries id.toNat)] else [qjh who id]
def qri (s:GNode) (f:GFrame) (sh:Int):GEntry:={ state:=1,ops:=f.ops,first:=qgh s f.id f.ops sh,deps:=[],at_:=[],values:=[] }
def qrj (s:GNode) (f:GFrame) (sh:Int):GNode:=bif (eat s.entries f.id.toNat).state==0 then { s with entries:=s.entries.setIfInBounds f.id.toNat (qri s f sh) } else s
def qib (s:GNode) (f:GFrame) (sh:Int):List Int:=bif (eat s.entries f.id.toNat).state==0 then qgh s f.id f.ops sh else (eat s.entries f.id.toNat).first
def qzt (s:GNode) (f:GFrame) (sh:Int):GEntry:={ state:=2,ops:=f.ops,first:=qib s f sh,deps:=f.deps,at_:=(eat s.entries f.id.toNat).at_,values:=(eat s.entries f.id.toNat).values }
def qnv (s:GNode) (f:GFrame) (sh:Int):GNode:={ s with entries:=s.entries.setIfInBounds f.id.toNat (qzt s f sh) }
noncomputable def qaw (s:GNode) (f:GFrame) (sh:Int):GNode:=bif decide ((eat s.entries f.id.toNat).state<2) then qqh (qnv s f sh) sh else s
noncomputable def qqi (s:GNode) (who:Int) (f:GFrame):GNode × List GFrame × Int :=
 bif f.kind==1 then bif qac f.ops (ofZ who) then (qrj s f (ofZ who),[qwz who f.id (eat (qrj s f (ofZ who)).entries f.id.toNat).first],0) else (s,[],4)
 else bif f.kind==3 then (qaw s f (ofZ who),qc0 (ofZ who) who f.id (qaw s f (ofZ who)),0) else (s,[],3)
noncomputable def qa0 (s:GNode) (who:Int) (f:GFrame):GNode × List GFrame × Int :=
 bif qwr s&&(decide (0≤who∧who<6)&&f.node==who) then bif qak f==0 then qqi s who f else (s,[],qak f) else (s,[],2)
theorem qzu {l:List Nat} (h:l.Pairwise (· < ·)) (h32 : ∀ m∈l,m<32):qav (qcs l)=true:=by
 unfold qav
 rw [qd2]
 intro i hi
 rw [qly] at hi
 have g : ∀ j,j<l.length→(qcs l).getD j 0=((l[j]?.getD 0:Nat):Int):=fun j hj=>by
  simp [qcs,hj]
 unfold qip
 rw [g i hi,List.getElem?_eq_getElem hi,Option.getD_some]
 have h1:=h32 _ (List.getElem_mem hi)
 rw [qaf (by omega),qaf (by omega),Bool.true_and,Bool.true_and]
 by_cases h0:i=0
 ·simp [h0]
 ·rw [g (i-1) (by omega),List.getElem?_eq_getElem (show i-1<l.length by omega),Option.getD_some]
  have:=List.pairwise_iff_getElem.1 h (i-1) i (by omega) hi (by omega)
  rw [qaf (by omega),Bool.or_true]
theorem aheadL_mem {s:GNode} {id:Int} {ops:List GOp} {sh:Int} {m:Nat}:m∈qx5 s id ops sh↔m<32∧qqg s id ops sh m=true:=by
 unfold qx5;simp
theorem qya {s:GNode} {n:Nat} {ops:List GOp} {sh:Int}:qav (qgh s n ops sh)=true∧qcp (qgh s n ops sh) n=false:=by
 refine ⟨qzu ?_ fun m hm=>(aheadL_mem.1 hm).1,?_⟩
 ·exact List.Pairwise.filter _ List.pairwise_lt_range
 ·rw [qgh,qzo]
  apply qae
  intro h
  have:=(aheadL_mem.1 h).2
  unfold qqg at this
  simp at this
theorem qp1 {f:GFrame} (h:qak f=0):qfe f=true∧qdp f=true∧qiq f=true:=by
 unfold qak at h
 split at h
 ·cases h
 ·split at h
  ·cases h
  ·split at h
   ·rename_i h3
    simpa [Bool.and_eq_true] using h3
   ·cases h
theorem q2h {f:GFrame} (h:qak f=0) (hk:f.kind=1∨f.kind=3):qap f.ops=true:=by
 have:=(qp1 h).1
 unfold qfe at this
 rwa [if_pos hk] at this
theorem q2i {f:GFrame} (h:qak f=0) (hk:f.kind=3):qav f.deps=true∧qcp f.deps f.id=false:=by
 have:=(qp1 h).2.1
 unfold qdp at this
 rw [if_pos (.inr hk)] at this
 simpa [Bool.and_eq_true] using this
theorem GoodN.asked {s:GNode} (h:GoodN s) {f:GFrame} (hf:qak f=0) (hk:f.kind=1) (sh:Int):GoodN (qrj s f sh):=by
 obtain ⟨_,_,hid⟩:=qa6 hf
 obtain ⟨n,hn⟩ : ∃ n:Nat,f.id=n:=⟨f.id.toNat,by omega⟩
 unfold qrj
 rw [hn,Int.toNat_natCast]
 cases h0:((eat s.entries n).state==0)
 ·exact h
 ·have h0:(eat s.entries n).state=0:=by simpa using h0
  refine h.set (n:=n) (by omega) rfl rfl (by omega) ⟨by show (1:Int)≤1;omega,by show (1:Int)≤2;omega⟩ ?_
  have ha:qav (qgh s f.id f.ops sh)=true∧qcp (qgh s f.id f.ops sh) n=false:=by rw [hn];exact qya
  exact ⟨q2h hf (.inl hk),ha.1,rfl,ha.2,rfl,fun _=>rfl,fun _=>rfl,rfl,rfl⟩
theorem GoodN.comm {s:GNode} (h:GoodN s) {f:GFrame} (hf:qak f=0) (hk:f.kind=3) (h2:(eat s.entries f.id.toNat).state<2) (sh:Int):GoodN (qnv s f sh):=by
 obtain ⟨_,_,hid⟩:=qa6 hf
 obtain ⟨n,hn⟩ : ∃ n:Nat,f.id=n:=⟨f.id.toNat,by omega⟩
 have hn32:n<32:=by omega
 have hto:f.id.toNat=n:=by rw [hn];rfl
 rw [hto] at h2
 have hfi:qav (qib s f sh)=true∧qcp (qib s f sh) n=false:=by
  unfold qib
  rw [hto]
  cases h0:((eat s.entries n).state==0)
  ·have hb:=h.body hn32 (by simpa using h0)
   exact ⟨hb.first,hb.nfirst⟩
  ·rw [cond_true,hn]
   exact qya
 have hat:(eat s.entries n).at_=[]∧(eat s.entries n).values=[]:=by
  by_cases h0:(eat s.entries n).state=0
  ·exact ⟨(h.empty hn32 h0).2.2.2.1,(h.empty hn32 h0).2.2.2.2⟩
  ·have hb:=h.body hn32 h0
   have h1:=hb.undone (by omega)
   have h2:=hb.same
   rw [h1] at h2
   exact ⟨h1,List.length_eq_zero_iff.1 h2.symm⟩
 have hd:=q2i hf hk
 rw [hn] at hd
 refine h.set (n:=n) hn32 (e:=qzt s f sh) (by rw [← hto];rfl) rfl (by omega) ⟨by show (1:Int)≤2;omega,by show (2:Int)≤2;omega⟩ ?_
 have e1:(qzt s f sh).at_=[]:=by rw [← hat.1,← hto];rfl
 have e2:(qzt s f sh).values=[]:=by rw [← hat.2,← hto];rfl
 refine ⟨q2h hf (.inr hk),hfi.1,hd.1,hfi.2,hd.2,fun h => ?_,fun _=>e1,by rw [e1,e2],by rw [e1];rfl⟩
 have h:(2:Int)=1:=h
 omega
theorem GoodN.commit {s:GNode} (h:GoodN s) {f:GFrame} (hf:qak f=0) (hk:f.kind=3) (sh:Int):GoodN (qaw s f sh):=by
 unfold qaw
 by_cases h2:(eat s.entries f.id.toNat).state<2
 ·rw [qaj (qaf h2)];exact (h.comm hf hk h2 sh).exec sh
 ·rw [qad (qae h2)];exact h
end Go.Proofs.Yteilffoclpgijaa
namespace Go.Proofs.Yteilffoclpgijaa
open Go.RowKit
open Rep (rep)
theorem qux {v:Vector GEntry 32} {j:Int} (h0:0≤j) (h1:j<32):qa7 v j=some (eat v j.toNat):=by
 obtain ⟨n,rfl⟩ : ∃ n:Nat,j=n:=⟨j.toNat,by omega⟩
 rw [qwq (by omega),Int.toNat_natCast]
theorem qrk {fu:Nat} {x:Int}:qml fu x=some (decide (0≤x∧x<6)):=by
 unfold qml qiy
 by_cases h:x≥0
 ·rw [qaj (qaf h)]
  congr 1
  apply decide_eq_decide.2
  omega
 ·rw [qad (qae h),qae (by omega)]
theorem qkl {who sh:Int} {f:GFrame} {d:GNode} (hf:0≤f.id∧f.id<32):qeo who f sh d=some (d,qc0 sh who f.id d,0):=by
 unfold qeo qf9 qf8 qc0
 have hb:Rep.bytes GFrame=120:=rfl
 rw [qaa,qa4 hf.1 hf.2,qaa,qux hf.1 hf.2,qaa,qaa]
 cases ((eat d.entries f.id.toNat).state==3)
 ·rfl
 ·simp only [cond_true,qaa,Bool.true_and]
  cases qac (eat d.entries f.id.toNat).ops sh
  ·rfl
  ·rw [cond_true,qbx (by rw [hb];simp)]
   rfl
theorem qkm {fu:Nat} {s d:GNode} {who sh:Int} {f:GFrame} (hf:0≤f.id∧f.id<32) (hfu:120≤fu) (hg:GoodN (qnv s f sh))
  (hd:d.entries=s.entries.setIfInBounds f.id.toNat { eat s.entries f.id.toNat with first:=qib s f sh }) (ho:d.order=s.order) (hv:d.values=s.values) :
  qep fu who f sh d=some (qqh (qnv s f sh) sh,qc0 sh who f.id (qqh (qnv s f sh) sh),0):=by
 have hn:f.id.toNat<32:=by omega
 obtain ⟨n,hnn⟩ : ∃ n:Nat,f.id=n:=⟨f.id.toNat,by omega⟩
 unfold qep
 have e1 : ∀ (x:Vector GEntry 32),({ d with entries:=x }:GNode).entries=x:=fun _=>rfl
 rw [qux hf.1 hf.2,qaa,qbt hf.1 hf.2,qaa,qaa]
 rw [e1,qux hf.1 hf.2,qaa,qbd hn,if_pos rfl,qbt hf.1 hf.2,qaa,qaa]
 simp only [Vector.setIfInBounds_setIfInBounds]
 rw [qux hf.1 hf.2,qaa,qbd hn,if_pos rfl,qbt hf.1 hf.2,qaa,qaa]
 simp only [Vector.setIfInBounds_setIfInBounds]
 have hc:({ entries:=d.entries.setIfInBounds f.id.toNat { state:=2,ops:=f.ops,first:=(eat d.entries f.id.toNat).first,deps:=f.deps,at_:=(eat d.entries f.id.toNat).at_,values:=(eat d.entries f.id.toNat).values },order:=d.order,values:=d.values }:GNode)=qnv s f sh:=by
  unfold qnv qzt
  rw [hd,ho,hv,qbd hn,if_pos rfl]
  simp only [Vector.setIfInBounds_setIfInBounds]
 rw [hc,quw hg hfu,qaa,qaa,qkl hf]
theorem quy {v:Vector GEntry 32} {k:Nat} (hk:k<32):v.setIfInBounds k (eat v k)=v:=by
 refine q6s fun j hj => ?_
 rw [qbd hk]
 by_cases e:k=j
 ·rw [if_pos e,e]
 ·rw [if_neg e]
theorem qqj {fu:Nat} {s:GNode} {who:Int} {f:GFrame} {d:GNode} (hg:GoodN s) (hz:qak f=0) (hfu:120≤fu):qeq fu s who f d=some (qqi s who f):=by
 obtain ⟨_,_,hf⟩:=qa6 hz
 have hn:f.id.toNat<32:=by omega
 unfold qeq qqi
 rw [hz,qaa,qad (by rfl),qaa,qa4 hf.1 hf.2,qaa]
 cases h1:(f.kind==1)
 ·rw [cond_false,cond_false]
  cases h3:(f.kind==3)
  ·rfl
  ·rw [cond_true,cond_true,qux hf.1 hf.2,qaa,qaa]
   unfold qaw
   have hk:f.kind=3:=by simpa using h3
   by_cases h2:(eat s.entries f.id.toNat).state<2
   ·have hc:=hg.comm hz hk h2 (ofZ who)
    rw [qaj (qaf h2),qaj (qaf h2)]
    cases h0:((eat s.entries f.id.toNat).state==0)
    ·rw [cond_false]
     refine qkm hf hfu hc ?_ rfl rfl
     unfold qib
     rw [h0,cond_false]
     exact (quy hn).symm
    ·rw [cond_true,qlz (by omega),qaa,qaa,qbt hf.1 hf.2,qaa,qaa]
     refine qkm hf hfu hc ?_ rfl rfl
     unfold qib
     rw [h0,cond_true]
   ·rw [qad (qae h2),qad (qae h2),qkl hf]
 ·rw [cond_true,cond_true,qaa]
  cases qac f.ops (ofZ who)
  ·rfl
  ·rw [qad (c := !true) rfl,cond_true,qux hf.1 hf.2,qaa]
   unfold qrj
   cases h0:((eat s.entries f.id.toNat).state==0)
   ·rw [cond_false,cond_false,qen,qux hf.1 hf.2]
    rfl
   ·rw [cond_true,qlz (by omega),qaa,qaa,qaa,qbt hf.1 hf.2,qaa,qaa,qen,qux hf.1 hf.2]
    rfl
theorem qnh {fu N:Nat} {s:GNode} {who:Int} {f:GFrame} (hs:NSz s N) (h1:N+40≤fu) (hfu:120≤fu):qg4 fu s who f=some (qa0 s who f):=by
 unfold qg4 qa0
 rw [qur hs h1,qaa]
 cases hg:qwr s
 ·rfl
 ·have hg:=goodN_iff.1 hg
  rw [qad (c := !true) rfl,qrk,qaa,Bool.true_and]
  cases decide (0≤who∧who<6)
  ·rfl
  ·rw [qad (c := !true) rfl,Bool.true_and]
   unfold qer
   have hne:(f.node != who) = !(f.node==who):=rfl
   rw [hne]
   cases (f.node==who)
   ·rfl
   ·rw [Bool.not_true,cond_false,cond_true]
    cases hz:(qak f==0)
    ·unfold qeq
     have:(qak f != 0)=true:=by rw [bne,hz];rfl
     rw [qaa,this]
     rfl
    ·exact qqj hg (by simpa using hz) hfu
theorem qyb {m:Int} : ∀ {l:List Int} {b:Int},qvm m b l=true→l=[]∨b+l.length<m
 | [],_,_ => .inl rfl
 | x::t,b,h=>by
  unfold qvm at h
  simp only [Bool.and_eq_true,decide_eq_true_eq] at h
  refine .inr ?_
  rcases qyb h.2 with e | e
  ·subst e;simp;omega
  ·simp only [List.length_cons];omega
theorem GoodN.sizes {s:GNode} (h:GoodN s):NSz s 33:=by
 refine ⟨by have:=h.len;omega,fun k => ?_⟩
 by_cases hk:k<32
 ·by_cases h0:(eat s.entries k).state=0
  ·obtain ⟨e1,e2,e3,e4,e5⟩:=h.empty hk h0
   refine ⟨?_,?_,?_,?_,?_⟩
   ·rw [e1];simp
   ·rw [e2];simp
   ·rw [e3];simp
   ·rw [e4];simp
   ·rw [e5];simp
  ·have hb:=h.body hk h0
   have h1:=qci hb.ops
   have h2:=qhc hb.first
   have h3:=qhc hb.deps
   have h4:(eat s.entries k).at_.length≤4:=by
    rcases qyb hb.up with e | e
    ·rw [e];simp
    ·omega
   have h5:=hb.same
   exact ⟨by omega,by omega,by omega,by omega,by omega⟩
 ·rw [q6t hk]
  have e:(Zr.zd:GEntry)={ state:=0,ops:=[],first:=[],deps:=[],at_:=[],values:=[] }:=rfl
  rw [e]
  exact ⟨by simp,by simp,by simp,by simp,by simp⟩
theorem NSz.mono {s:GNode} {N M:Nat} (h:NSz s N) (hNM:N≤M):NSz s M :=
 ⟨⟨by have:=h.order.1;omega,h.order.2⟩,fun k=>by
  have e:=h.ent k
  exact ⟨⟨by have:=e.ops.1;omega,e.ops.2⟩,⟨by have:=e.first.1;omega,e.first.2⟩,⟨by have:=e.deps.1;omega,e.deps.2⟩,⟨by have:=e.at_.1;omega,e.at_.2⟩,⟨by have:=e.values.1;omega,e.values.2⟩⟩⟩
def zeroN:GNode:={ entries:=Zr.zd,order:=Zr.zd,values:=Zr.zd }
theorem qsr (k:Nat):eat (Zr.zd:Vector GEntry 32) k=Zr.zd:=by
 show eat (Vector.replicate 32 Zr.zd) k=Zr.zd
 unfold eat
 by_cases hk:k<32<;>simp [hk]
theorem qfa:GoodN zeroN:=by
 refine ⟨List.nodup_nil,(by intro m hm;cases hm),fun k hk => ?_⟩
 show qgg k (eat (Zr.zd:Vector GEntry 32) k) (decide ((k:Int)∈([]:List Int)))=true
 rw [qsr]
 rfl
def f9:GFrame:={ kind:=3,node:=3,id:=4,ops:=[{ kind:=2,key:=1,n:=9 }],deps:=[],at_:=[],vals:=[] }
end Go.Proofs.Yteilffoclpgijaa
namespace Go.Proofs.Yteilffoclpgijaa
open Go.RowKit
open Rep (rep)
theorem ESz.mono {e:GEntry} {N M:Nat} (h:ESz e N) (hNM:N≤M):ESz e M :=
 ⟨⟨by have:=h.ops.1;omega,h.ops.2⟩,⟨by have:=h.first.1;omega,h.first.2⟩,⟨by have:=h.deps.1;omega,h.deps.2⟩,⟨by have:=h.at_.1;omega,h.at_.2⟩,⟨by have:=h.values.1;omega,h.values.2⟩⟩
end Go.Proofs.Yteilffoclpgijaa
namespace Go.Proofs.Yteilffoclpgijaa
open Go.RowKit
open Rep (rep)
set_option linter.unusedVariables false
def q9b (l:List Int):Prop := ∀ c∈l,0≤c∧c<256
theorem quz {n:Int} (h1 : -1099511627776≤n) (h2:n≤1099511627776):q5g ((n+140737488355328) / 1099511627776%256) ((n+140737488355328) / 4294967296%256) ((n+140737488355328) / 16777216%256) ((n+140737488355328) / 65536%256) ((n+140737488355328) / 256%256) ((n+140737488355328)%256)=n:=by
 unfold q5g
 omega
theorem qyc {r:List Int} : ∀ (os:List GOp),(∀ o∈os,-1099511627776≤o.n∧o.n≤1099511627776)→q4m os.length (os.flatMap qgu++r)=some (os,r)
 | [],_=>rfl
 | o::t,h=>by
  have h0:=h o List.mem_cons_self
  have ih:=qyc (r:=r) t fun x hx=>h x (List.mem_cons_of_mem _ hx)
  have e:(o::t).flatMap qgu++r=o.kind::o.key::(o.n+140737488355328) / 1099511627776%256::(o.n+140737488355328) / 4294967296%256::(o.n+140737488355328) / 16777216%256::(o.n+140737488355328) / 65536%256::(o.n+140737488355328) / 256%256::(o.n+140737488355328)%256::(t.flatMap qgu++r):=rfl
  rw [e,List.length_cons,q4m,ih,quz h0.1 h0.2]
  rfl
theorem qyd {r:List Int} : ∀ (ats vs:List Int),vs.length=ats.length→(∀ v∈vs,-1099511627776≤v∧v≤1099511627776)→q4n ats.length ((ats.zip vs).flatMap qdd++r)=some (ats,vs,r)
 | [],[],_,_=>rfl
 | [],_::_,h,_=>by simp at h
 | _::_,[],h,_=>by simp at h
 | a::ats,v::vs,hl,h=>by
  have h0:=h v List.mem_cons_self
  have ih:=qyd (r:=r) ats vs (by simpa using hl) fun x hx=>h x (List.mem_cons_of_mem _ hx)
  have e:((a::ats).zip (v::vs)).flatMap qdd++r=a::(v+140737488355328) / 1099511627776%256::(v+140737488355328) / 4294967296%256::(v+140737488355328) / 16777216%256::(v+140737488355328) / 65536%256::(v+140737488355328) / 256%256::(v+140737488355328)%256::((ats.zip vs).flatMap qdd++r):=rfl
  rw [e,List.length_cons,q4n,ih,quz h0.1 h0.2]
  rfl
theorem q2j {f:GFrame} (hf:FOk f) (r:List Int):que (quc f++r)=some (f,r):=by
 have e:quc f++r=f.kind::f.node::f.id::(f.ops.length:Int)::(f.ops.flatMap qgu++((f.deps.length:Int)::(f.deps++((f.at_.length:Int)::((f.at_.zip f.vals).flatMap qdd++r))))):=by
  unfold quc
  simp [List.append_assoc]
 have h1:=qyc (r:=(f.deps.length:Int)::(f.deps++((f.at_.length:Int)::((f.at_.zip f.vals).flatMap qdd++r)))) f.ops fun o ho=>by have:=hf.op o ho;omega
 have h2:=qyd (r:=r) f.at_ f.vals hf.vals hf.val
 have t1:((f.ops.length:Int)).toNat=f.ops.length:=rfl
 have t2:((f.deps.length:Int)).toNat=f.deps.length:=rfl
 have t3:((f.at_.length:Int)).toNat=f.at_.length:=rfl
 rw [e,que,t1,h1]
 simp only [Option.bind_some]
 rw [q4p,t2,q1z,if_pos (by simp)]
 simp only [Option.bind_some]
 rw [List.take_left' rfl,List.drop_left' rfl,q4o,t3,h2]
 rfl
theorem q2k {l:List Int} (h:q9b l):byL (strOfNums l)=l:=by
 unfold byL
 rw [strOfNums_data,List.map_map]
 have : ∀ x∈l,((fun b:UInt8=>(b.toNat:Int)) ∘ fun n:Int=>UInt8.ofNat n.toNat) x=x:=by
  intro x hx
  have:=h x hx
  show (((UInt8.ofNat x.toNat).toNat:Nat):Int)=x
  rw [UInt8.toNat_ofNat_of_lt' (by show x.toNat<256;omega)]
  omega
 rw [List.map_congr_left this]
 simp
theorem qu0 {f:GFrame} (hf:FOk f):q9b (quc f)∧(quc f).length≤100:=by
 have six : ∀ (n c:Int),c∈q0a n→0≤c∧c<256:=by
  intro n c hc
  unfold q0a at hc
  simp only [List.mem_cons,List.not_mem_nil,or_false] at hc
  omega
 have hlen6 : ∀ n,(q0a n).length=6:=fun n=>rfl
 have h1 : ∀ (os:List GOp),(os.flatMap qgu).length=8*os.length:=by
  intro os
  induction os with
  | nil=>rfl
  | cons o t ih =>
   have e0:qgu o=[o.kind,o.key]++q0a o.n:=rfl
   rw [List.flatMap_cons,List.length_append,ih,e0]
   simp [hlen6]
   omega
 have h2 : ∀ (zs:List (Int × Int)),(zs.flatMap qdd).length=7*zs.length:=by
  intro zs
  induction zs with
  | nil=>rfl
  | cons z t ih =>
   have e0:qdd z=z.1::q0a z.2:=rfl
   rw [List.flatMap_cons,List.length_append,ih,e0]
   simp [hlen6]
   omega
 have hh:=hf.head
 have ho:=hf.ops
 have hd:=hf.deps
 have ha:=hf.at_
 refine ⟨fun c hc => ?_,?_⟩
 ·unfold quc at hc
  simp only [List.mem_append,List.mem_cons,List.not_mem_nil,or_false,List.mem_flatMap] at hc
  rcases hc with (h | h | h | h) | ⟨o,h,hx⟩ | h | h | h | ⟨z,h,hx⟩
  ·omega
  ·omega
  ·omega
  ·omega
  ·have:=hf.op o h
   have e0:qgu o=[o.kind,o.key]++q0a o.n:=rfl
   rw [e0] at hx
   simp only [List.mem_append,List.mem_cons,List.not_mem_nil,or_false] at hx
   rcases hx with (h | h) | h
   ·omega
   ·omega
   ·exact six _ _ h
  ·omega
  ·have:=hf.dep c h;omega
  ·omega
  ·have e0:qdd z=z.1::q0a z.2:=rfl
   rw [e0] at hx
   rcases List.mem_cons.1 hx with h3 | h3
   ·have:=hf.ats z.1 (List.of_mem_zip h).1
    omega
   ·exact six _ _ h3
 ·unfold quc
  simp only [List.length_append,List.length_cons,List.length_nil,h1,h2,List.length_zip]
  omega
theorem qzv (l:List Int):(∃ f,que l=some (f,[])∧qak f=0∧qj7 l=(f,0))∨qj7 l=(noF,1):=by
 unfold qj7
 match h:que l with
 | none=>exact .inr rfl
 | some (f,[]) =>
  by_cases hz:qak f=0
  ·left
   refine ⟨f,rfl,hz,?_⟩
   show (bif qak f==0 then (f,0) else (noF,(1:Int)))=_
   rw [hz];rfl
  ·right
   have e2:(qak f==0)=false:=by simp [hz]
   show (bif qak f==0 then (f,0) else (noF,(1:Int)))=_
   rw [e2];rfl
 | some (f,_::_)=>exact .inr rfl
end Go.Proofs.Yteilffoclpgijaa
namespace Go.Proofs.Yteilffoclpgijaa
open Go.RowKit
open Rep (rep)
theorem ql1 {s:GNode} {who:Int} {f:GFrame} (h:(qa0 s who f).2.2≠0):(qa0 s who f).1=s∧(qa0 s who f).2.1=[]:=by
 unfold qa0 at *
 cases hc:(qwr s&&(decide (0≤who∧who<6)&&f.node==who))
 ·exact ⟨rfl,rfl⟩
 ·rw [hc,cond_true] at h
  rw [cond_true]
  cases hz:(qak f==0)
  ·exact ⟨rfl,rfl⟩
  ·rw [hz,cond_true] at h
   rw [cond_true]
   unfold qqi at *
   cases h1:(f.kind==1)
   ·rw [h1,cond_false] at h
    cases h3:(f.kind==3)
    ·exact ⟨rfl,rfl⟩
    ·rw [h3,cond_true] at h
     exact absurd rfl h
   ·rw [h1,cond_true] at h
    cases ht:qac f.ops (ofZ who)
    ·exact ⟨rfl,rfl⟩
    ·rw [ht,cond_true] at h
     exact absurd rfl h
theorem qgr {s:GNode} {who:Int} {f:GFrame} (hs:GoodN s) (hw:0≤who∧who<6) (hn:f.node=who) (hz:qak f=0):qa0 s who f=qqi s who f:=by
 unfold qa0
 rw [goodN_iff.2 hs,hz,qaf hw,hn]
 simp
theorem qfb {s:GNode} {who:Int} {f:GFrame} (h1:f.kind=1) (ht:qac f.ops (ofZ who)=true):qqi s who f=(qrj s f (ofZ who),[qwz who f.id (eat (qrj s f (ofZ who)).entries f.id.toNat).first],0):=by
 unfold qqi
 rw [qaj (by simp [h1]),ht]
 rfl
theorem qco {s:GNode} {who:Int} {f:GFrame} (h3:f.kind=3):qqi s who f=(qaw s f (ofZ who),qc0 (ofZ who) who f.id (qaw s f (ofZ who)),0):=by
 unfold qqi
 rw [qad (by simp [h3]),qaj (by simp [h3])]
theorem qjz {s:GNode} {who:Int} {f:GFrame} (h:(qa0 s who f).2.2=0):GoodN s∧(0≤who∧who<6)∧f.node=who∧qak f=0∧((f.kind=1∧qac f.ops (ofZ who)=true)∨f.kind=3):=by
 unfold qa0 at h
 cases hc:(qwr s&&(decide (0≤who∧who<6)&&f.node==who))
 ·rw [hc] at h
  exact absurd (show (2:Int)=0 from h) (by decide)
 ·rw [hc,cond_true] at h
  simp only [Bool.and_eq_true,decide_eq_true_eq,beq_iff_eq] at hc
  cases hz:(qak f==0)
  ·rw [hz] at h
   have h:qak f=0:=h
   rw [h] at hz
   cases hz
  ·rw [hz,cond_true] at h
   refine ⟨goodN_iff.1 hc.1,hc.2.1,hc.2.2,by simpa using hz,?_⟩
   unfold qqi at h
   cases h1:(f.kind==1)
   ·rw [h1,cond_false] at h
    cases h3:(f.kind==3)
    ·rw [h3] at h
     exact absurd (show (3:Int)=0 from h) (by decide)
    ·exact .inr (by simpa using h3)
   ·rw [h1,cond_true] at h
    cases ht:qac f.ops (ofZ who)
    ·rw [ht] at h
     exact absurd (show (4:Int)=0 from h) (by decide)
    ·exact .inl ⟨by simpa using h1,rfl⟩
structure Ex (s t:GNode):Prop where
 ent : ∀ k,k<32→eat t.entries k=eat s.entries k∨((eat s.entries k).state=2 ∧ ∃ a b,eat t.entries k=qgn (eat s.entries k) a b)
 order : ∃ L,t.order=s.order++L
theorem Ex.refl (s:GNode):Ex s s:=⟨fun _ _ => .inl rfl,[],by simp⟩
theorem Ex.trans {s t u:GNode} (h:Ex s t) (k:Ex t u):Ex s u:=by
 refine ⟨fun j hj => ?_,?_⟩
 ·rcases h.ent j hj with e | ⟨e2,a,b,e⟩
  ·rcases k.ent j hj with e' | ⟨e2',a,b,e'⟩
   ·exact .inl (e'.trans e)
   ·rw [e] at e2' e'
    exact .inr ⟨e2',a,b,e'⟩
  ·rcases k.ent j hj with e' | ⟨e2',_⟩
   ·exact .inr ⟨e2,a,b,e'.trans e⟩
   ·rw [e] at e2'
    exact absurd (show (3:Int)=2 from e2') (by decide)
 ·obtain ⟨L,h1⟩:=h.order
  obtain ⟨L',h2⟩:=k.order
  exact ⟨L++L',by rw [h2,h1,List.append_assoc]⟩
theorem Ex.one {s:GNode} {n:Nat} (hn:n<32) (h2:(eat s.entries n).state=2) (sh:Int):Ex s (q0b s n sh):=by
 refine ⟨fun k hk => ?_,_,rfl⟩
 show eat (s.entries.setIfInBounds n _) k=_∨_ ∧ ∃ a b,eat (s.entries.setIfInBounds n _) k=_
 rw [qbd hn]
 by_cases e:n=k
 ·subst e
  rw [if_pos rfl]
  exact .inr ⟨h2,_,_,rfl⟩
 ·rw [if_neg e]
  exact .inl rfl
theorem Ex.step {s:GNode} {m:Nat} (hm:m<32) (sh:Int):Ex s (qkz sh s m):=by
 unfold qkz
 cases h2:((eat s.entries m).state==2)
 ·exact .refl s
 ·exact .one hm (by simpa using h2) sh
theorem Ex.run (sh:Int) : ∀ (l:List Nat) (s:GNode),(∀ m∈l,m<32)→Ex s (q0c sh s l)
 | [],s,_ => .refl s
 | m::t,_,hl=>(Ex.step (hl m List.mem_cons_self) sh).trans (Ex.run sh t _ fun x hx=>hl x (List.mem_cons_of_mem _ hx))
theorem Ex.turn {s:GNode} {n:Nat} (hn:n<32) (g:GGraph) (sh:Int):Ex s (qil g sh s n):=by
 unfold qil
 cases ((eat s.entries n).state==2)
 ·exact .refl s
 ·exact Ex.run sh _ s (qp0 hn)
theorem Ex.turns (g:GGraph) (sh:Int) : ∀ (l:List Nat) (s:GNode),(∀ m∈l,m<32)→Ex s (l.foldl (qil g sh) s)
 | [],s,_ => .refl s
 | m::t,_,hl=>(Ex.turn (hl m List.mem_cons_self) g sh).trans (Ex.turns g sh t _ fun x hx=>hl x (List.mem_cons_of_mem _ hx))
theorem Ex.exec (s:GNode) (sh:Int):Ex s (qqh s sh):=Ex.turns _ sh _ s fun m hm=>List.mem_range.1 hm
structure Kp (x y:GEntry):Prop where
 state:x.state≤y.state
 first:x.state≠0→x.first=y.first
 body:2≤x.state→x.deps=y.deps∧x.ops=y.ops
 done:x.state=3→x=y
theorem Kp.refl (x:GEntry):Kp x x:=⟨Int.le_refl _,fun _=>rfl,fun _=>⟨rfl,rfl⟩,fun _=>rfl⟩
theorem Kp.trans {x y z:GEntry} (h0:0≤x.state) (h:Kp x y) (k:Kp y z):Kp x z:=by
 have h1:=h.state
 refine ⟨Int.le_trans h.state k.state,fun hx=>(h.first hx).trans (k.first (by omega)),fun hx => ?_,fun hx => ?_⟩
 ·obtain ⟨a,b⟩:=h.body hx
  obtain ⟨c,d⟩:=k.body (by omega)
  exact ⟨a.trans c,b.trans d⟩
 ·have e:=h.done hx
  rw [e]
  exact k.done (by rw [← e];exact hx)
theorem Ex.kp {s t:GNode} (h:Ex s t) {k:Nat} (hk:k<32):Kp (eat s.entries k) (eat t.entries k):=by
 rcases h.ent k hk with e | ⟨e2,a,b,e⟩
 ·rw [e];exact .refl _
 ·rw [e]
  refine ⟨?_,fun _=>rfl,fun _=>⟨rfl,rfl⟩,fun h3=>by omega⟩
  rw [e2]
  show (2:Int)≤3
  omega
structure KeepN (s t:GNode):Prop where
 ent : ∀ k,k<32→Kp (eat s.entries k) (eat t.entries k)
 order : ∃ L,t.order=s.order++L
theorem KeepN.refl (s:GNode):KeepN s s:=⟨fun _ _ => .refl _,[],by simp⟩
theorem q2l {s:GNode} {f:GFrame} (hf:0≤f.id∧f.id<32) (sh:Int):KeepN s (qrj s f sh):=by
 have hn:f.id.toNat<32:=by omega
 unfold qrj
 cases h0:((eat s.entries f.id.toNat).state==0)
 ·exact .refl s
 ·have h0:(eat s.entries f.id.toNat).state=0:=by simpa using h0
  refine ⟨fun k hk => ?_,[],by simp⟩
  show Kp _ (eat (s.entries.setIfInBounds _ _) k)
  rw [qbd hn]
  by_cases e:f.id.toNat=k
  ·rw [if_pos e,← e]
   refine ⟨?_,fun h=>absurd h0 h,fun h=>by omega,fun h=>by omega⟩
   rw [h0]
   show (0:Int)≤1
   omega
  ·rw [if_neg e];exact .refl _
theorem qzw {s:GNode} {f:GFrame} (hf:0≤f.id∧f.id<32) (h2:(eat s.entries f.id.toNat).state<2) (sh:Int) {k:Nat}:Kp (eat s.entries k) (eat (qnv s f sh).entries k):=by
 have hn:f.id.toNat<32:=by omega
 show Kp _ (eat (s.entries.setIfInBounds _ _) k)
 rw [qbd hn]
 by_cases e:f.id.toNat=k
 ·rw [if_pos e,← e]
  refine ⟨?_,fun h => ?_,fun h=>by omega,fun h=>by omega⟩
  ·show _≤(2:Int)
   omega
  ·show _=qib s f sh
   unfold qib
   rw [qad (by simpa using h)]
 ·rw [if_neg e];exact .refl _
theorem qu1 {s:GNode} (hs:GoodN s) {f:GFrame} (hf:0≤f.id∧f.id<32) (sh:Int):KeepN s (qaw s f sh):=by
 unfold qaw
 by_cases h2:(eat s.entries f.id.toNat).state<2
 ·rw [qaj (qaf h2)]
  have hx:=Ex.exec (qnv s f sh) sh
  exact ⟨fun k hk=>Kp.trans (hs.state hk).1 (qzw hf h2 sh) (hx.kp hk),hx.order⟩
 ·rw [qad (qae h2)];exact .refl s
theorem qzx {s:GNode} {who:Int} {f:GFrame}:KeepN s (qa0 s who f).1:=by
 by_cases h:(qa0 s who f).2.2=0
 ·obtain ⟨hs,hw,hn,hz,hk⟩:=qjz h
  obtain ⟨_,_,hf⟩:=qa6 hz
  rw [qgr hs hw hn hz]
  rcases hk with ⟨h1,ht⟩ | h3
  ·rw [qfb h1 ht];exact q2l hf _
  ·rw [qco h3];exact qu1 hs hf _
 ·rw [(ql1 h).1];exact .refl s
theorem qex {s:GNode} {who:Int} {f:GFrame} (h:(qa0 s who f).2.2=0):GoodN (qa0 s who f).1:=by
 obtain ⟨hs,hw,hn,hz,hk⟩:=qjz h
 rw [qgr hs hw hn hz]
 rcases hk with ⟨h1,ht⟩ | h3
 ·rw [qfb h1 ht];exact hs.asked hz h1 _
 ·rw [qco h3];exact hs.commit hz h3 _
theorem ql2 {s:GNode} {f:GFrame} (hf:0≤f.id∧f.id<32) (sh:Int):2≤(eat (qaw s f sh).entries f.id.toNat).state:=by
 have hn:f.id.toNat<32:=by omega
 unfold qaw
 by_cases h2:(eat s.entries f.id.toNat).state<2
 ·rw [qaj (qaf h2)]
  have h:=((Ex.exec (qnv s f sh) sh).kp hn).state
  have e:(eat (qnv s f sh).entries f.id.toNat).state=2:=by
   show (eat (s.entries.setIfInBounds _ _) _).state=2
   rw [qbd hn,if_pos rfl]
   rfl
  omega
 ·rw [qad (qae h2)]
  omega
theorem qw0 {s:GNode} {who:Int} {f:GFrame} (h:(qa0 s who f).2.2=0):(qa0 s who f).2.1.length≤100 ∧ ∀ x∈(qa0 s who f).2.1,x.ops.length≤100∧x.deps.length≤100∧x.at_.length≤100∧x.vals.length≤100:=by
 have hz:=(qex h).sizes
 obtain ⟨hs,hw,hn,hf,hk⟩:=qjz h
 rw [qgr hs hw hn hf] at hz ⊢
 rcases hk with ⟨h1,ht⟩ | h3
 ·rw [qfb h1 ht] at hz ⊢
  have hz:NSz (qrj s f (ofZ who)) 33:=hz
  refine ⟨by simp,fun x hx => ?_⟩
  have hx:=List.mem_singleton.1 hx
  have:=(hz.ent f.id.toNat).first.1
  rw [hx]
  exact ⟨by simp [qwz],by show (eat _ _).first.length≤100;omega,by simp [qwz],by simp [qwz]⟩
 ·rw [qco h3] at hz ⊢
  have hz:NSz (qaw s f (ofZ who)) 33:=hz
  have h1:=(hz.ent f.id.toNat).at_.1
  have h2:=(hz.ent f.id.toNat).values.1
  show (qc0 _ _ _ _).length≤100 ∧ ∀ x∈qc0 _ _ _ _,_
  unfold qc0
  have hkn : ∀ x,x=qjh who f.id→x.ops.length≤100∧x.deps.length≤100∧x.at_.length≤100∧x.vals.length≤100:=by
   rintro x rfl
   exact ⟨by simp [qjh],by simp [qjh],by simp [qjh],by simp [qjh]⟩
  cases ((eat (qaw s f (ofZ who)).entries f.id.toNat).state==3&&qac (eat (qaw s f (ofZ who)).entries f.id.toNat).ops (ofZ who))
  ·exact ⟨by simp,fun x hx=>hkn x (List.mem_singleton.1 hx)⟩
  ·refine ⟨by simp,fun x hx => ?_⟩
   rcases List.mem_cons.1 hx with hx | hx
   ·exact hkn x hx
   ·have hx:=List.mem_singleton.1 hx
    rw [hx]
    exact ⟨by simp [qwy],by simp [qwy],by show (eat _ _).at_.length≤100;omega,by show (eat _ _).values.length≤100;omega⟩
end Go.Proofs.Yteilffoclpgijaa
namespace Go.Proofs.Yteilffoclpgijaa
open Go.RowKit
open Rep (rep)
noncomputable def qbc (who:Int):List ByteArray→GNode→GNode × Int
 | [],s=>(s,0)
 | x::t,s=>bif (qj7 (byL x)).2 != 0 then (zeroN,(qj7 (byL x)).2) else bif (qa0 s who (qj7 (byL x)).1).2.2 != 0 then (zeroN,(qa0 s who (qj7 (byL x)).1).2.2) else qbc who t (qa0 s who (qj7 (byL x)).1).1
theorem qgs {who:Int} : ∀ (l:List ByteArray) {s:GNode},GoodN s→GoodN (qbc who l s).1
 | [],_,h=>h
 | x::t,s,h=>by
  unfold qbc
  cases h1:((qj7 (byL x)).2 != 0)
  ·rw [cond_false]
   cases h2:((qa0 s who (qj7 (byL x)).1).2.2 != 0)
   ·rw [cond_false]
    exact qgs t (qex (by simpa using h2))
   ·exact qfa
  ·exact qfa
theorem qic {fu:Nat} (hfu:300≤fu) {who:Int} {l:List ByteArray} (hl:l.length≤17592186043904) (hs : ∀ x∈l,x.size≤140737488351232) (z:GNode) : ∀ (n m k:Nat) (s:GNode),l.length=k+m→m<n→GoodN s→qb1 fu who l n s z k=some (qbc who (l.drop k) s)
 | 0,m,k,_,_,h,_=>absurd h (by omega)
 | n+1,0,k,s,hk,_,_=>by
  rw [qb1,qad (qae (by omega)),qaa,List.drop_of_length_le (by omega)]
  rfl
 | n+1,m+1,k,s,hk,hn,hg=>by
  have hlt:k<l.length:=by omega
  have hx:=hs _ (List.getElem_mem hlt)
  have ih:=fun s hg=>qic hfu hl hs (who:=who) z n m (k+1) s (by omega) (by omega) hg
  rw [qb1,qaj (qaf (by omega)),qbm,List.getElem?_eq_getElem hlt,qaa,qra (by omega) hx,qaa,qaa,List.drop_eq_getElem_cons hlt]
  generalize l[k]=x
  rw [qbc,wrs k (by omega)]
  cases h1:((qj7 (byL x)).2 != 0)
  ·rw [cond_false,cond_false,qnh hg.sizes (by omega) (by omega),qaa,qaa]
   cases h2:((qa0 s who (qj7 (byL x)).1).2.2 != 0)
   ·rw [cond_false,cond_false]
    exact ih _ (qex (by simpa using h2))
   ·rfl
  ·rfl
theorem qqk {fu:Nat} {who:Int} {l:List ByteArray} (hfu:l.length+300≤fu) (hl:l.length≤17592186043904) (hs : ∀ x∈l,x.size≤140737488351232):qes fu who l=some (bif decide (0≤who∧who<6) then qbc who l zeroN else (zeroN,2)):=by
 unfold qes
 rw [qrk,qaa]
 cases decide (0≤who∧who<6)
 ·rfl
 ·rw [qad (c := !true) rfl,cond_true]
  exact qic (by omega) hl hs _ fu l.length 0 zeroN (by omega) (by omega) qfa
theorem qw1 {f:GFrame} (hz:qak f=0):(qef f).2=0∧qj7 (byL (qef f).1)=(f,0)∧(qef f).1.size≤100:=by
 have hf:=qx0 hz
 obtain ⟨hb,hl⟩:=qu0 hf
 have hby:=q2k hb
 have hsz:=qja (strOfNums (quc f))
 rw [hby] at hsz
 have hpar:=q2j hf []
 rw [List.append_nil] at hpar
 unfold qef
 rw [if_pos hz]
 refine ⟨rfl,?_,by show (strOfNums (quc f)).size≤100;omega⟩
 show qj7 (byL (strOfNums (quc f)))=_
 rw [hby]
 unfold qj7
 rw [hpar]
 show (bif qak f==0 then (f,0) else (noF,(1:Int)))=_
 rw [hz];rfl
theorem qni {who:Int} {x:ByteArray} : ∀ (l:List ByteArray) (s t:GNode),qbc who l s=(t,0)→qbc who (l++[x]) s=qbc who [x] t
 | [],s,t,h=>by
  have:s=t:=congrArg Prod.fst h
  rw [this]
  rfl
 | y::l,s,t,h=>by
  rw [qbc] at h
  rw [List.cons_append,qbc]
  cases h1:((qj7 (byL y)).2 != 0)
  ·rw [h1,cond_false] at h
   rw [cond_false]
   cases h2:((qa0 s who (qj7 (byL y)).1).2.2 != 0)
   ·rw [h2,cond_false] at h
    rw [cond_false]
    exact qni l _ t h
   ·rw [h2,cond_true] at h
    have h:(qa0 s who (qj7 (byL y)).1).2.2=0:=congrArg Prod.snd h
    rw [h] at h2
    cases h2
  ·rw [h1,cond_true] at h
   have h:(qj7 (byL y)).2=0:=congrArg Prod.snd h
   rw [h] at h1
   cases h1
end Go.Proofs.Yteilffoclpgijaa
namespace Go.Proofs.Yteilffoclpgijaa
open Go.RowKit
open Rep (rep)
section
variable {α : Type} [Rep α] [Zr α] {n:Nat}
def qab (v:Vector α n) (k:Nat) : α := v[k]?.getD Zr.zd
theorem qnw {v:Vector α n} {j:Int} (h0:0≤j) (h1:j<n):qa7 v j=some (qab v j.toNat):=by
 have h:j.toNat<n:=by omega
 unfold qa7 qab
 rw [if_pos h0]
 simp [h]
theorem qan {v:Vector α n} {k j:Nat} {x : α} (hk:k<n):qab (v.setIfInBounds k x) j=if k=j then x else qab v j:=by
 unfold qab
 rw [Vector.getElem?_setIfInBounds]
 by_cases e:k=j
 ·rw [if_pos e,if_pos e,if_pos hk];rfl
 ·rw [if_neg e,if_neg e]
theorem qee [Pos α] (k:Nat):qab (Zr.zd:Vector α n) k=Zr.zd:=by
 show qab (Vector.replicate n Zr.zd) k=Zr.zd
 unfold qab
 by_cases hk:k<n<;>simp [hk]
end
def ql3 (e:Int):GReply:={ code:=e,n:=0,values:=[] }
def okR (n:Int) (v:List Int):GReply:={ code:=0,n:=n,values:=v }
def qgj:List ByteArray→List GFrame→List ByteArray
 | net,[]=>net
 | net,f::t=>qgj (bif qak f==0&&decide (net.length<60) then net++[(qef f).1] else net) t
theorem q2m (f:GFrame):(qef f).2=qak f:=by
 unfold qef
 split
 ·rename_i h;exact h.symm
 ·rfl
theorem ql4 (f:GFrame):(qef f).1.size≤100:=by
 by_cases h:qak f=0
 ·exact (qw1 h).2.2
 ·unfold qef
  rw [if_neg h]
  show (strOfNums []).size≤100
  have:(strOfNums []).size=0:=rfl
  omega
theorem qnj {fu:Nat} (hfu:40≤fu) {l:List GFrame} (hl:l.length≤1000) {c:GCluster} : ∀ (n m k:Nat) (net:List ByteArray),l.length=k+m→m<n→qdk fu l n c net k=some (c,qgj net (l.drop k))
 | 0,m,k,_,_,h=>absurd h (by omega)
 | n+1,0,k,net,hk,_=>by
  rw [qdk,qad (qae (by omega)),List.drop_of_length_le (by omega)]
  rfl
 | n+1,m+1,k,net,hk,hn=>by
  have hb:Rep.bytes ByteArray=16:=rfl
  have hlt:k<l.length:=by omega
  have ih:=fun net=>qnj hfu hl (c:=c) n m (k+1) net (by omega) (by omega)
  rw [qdk,qaj (qaf (by omega)),qbm,List.getElem?_eq_getElem hlt,qaa,qaa,qzi _ hfu,qaa,List.drop_eq_getElem_cons hlt,q2m]
  generalize l[k]=f
  simp only [qi8,qi7,q9s k (by omega),qgj]
  have hs:=ql4 f
  cases h1:(qak f==0)
  ·rw [cond_false,cond_false,Bool.false_and,cond_false,ih]
  ·rw [cond_true,Bool.true_and]
   by_cases h2:net.length<60
   ·rw [qaf (by omega),qaf h2,cond_true,cond_true,qho (by omega),qaa,qbx (by rw [hb];simp only [List.length_singleton];omega),qaa,qaa]
    exact ih _
   ·rw [qae (by omega),qae h2,cond_false,cond_false,ih]
theorem qj0 {fu:Nat} (hfu:1100≤fu) {l:List GFrame} (hl:l.length≤1000) {c:GCluster} {net:List ByteArray}:qkw fu c net l=some (c,qgj net l) :=
 qnj (by omega) hl fu l.length 0 net (by omega) (by omega)
theorem qk0 : ∀ (l:List GFrame) (net:List ByteArray),net.length≤60→(∀ s∈net,s.size≤400)→(qgj net l).length≤60 ∧ ∀ s∈qgj net l,s.size≤400
 | [],net,h1,h2=>⟨h1,h2⟩
 | f::t,net,h1,h2=>by
  rw [qgj]
  cases hb:(qak f==0&&decide (net.length<60))
  ·exact qk0 t net h1 h2
  ·simp only [Bool.and_eq_true,decide_eq_true_eq] at hb
   refine qk0 t _ (by simp;omega) fun s hs => ?_
   rcases List.mem_append.1 hs with hs | hs
   ·exact h2 s hs
   ·rw [List.mem_singleton.1 hs]
    have:=ql4 f
    omega
structure CInv (c:GCluster) (net:List ByteArray):Prop where
 acts:0≤c.acts∧c.acts≤400
 begun:0≤c.begun∧c.begun≤32
 node : ∀ n,n<6→GoodN (qab c.nodes n)
 down : ∀ n,n<6→qab c.down n=true→qab c.nodes n=zeroN
 log : ∀ n,n<6→(qab c.logs n).size≤65536
 tear : ∀ n,n<6→0≤qab c.tear n∧qab c.tear n≤401
 cas : ∀ n,n<32→qc3 (qab c.cases n)=true
 net:net.length≤60 ∧ ∀ s∈net,s.size≤400
def qw2 (c:GCluster) (x:Int):GReply:=okR x (qct (qab c.cases x.toNat)).1
theorem qrl {fu:Nat} (hfu:7≤fu) {c:GCluster} {x:Int} (h0:0≤x) (h1:x<32):qmo fu c x=some (qw2 c x):=by
 unfold qmo
 rw [qa4 h0 h1,qaa,qnw h0 h1,qaa,qkc hfu,qaa,qaa,qaa]
 rfl
def q6y (c:GCluster) (ops:List GOp):GCluster:={ c with cases:=c.cases.setIfInBounds c.begun.toNat (qdb { id:=c.begun,ops:=ops }).1,begun:=c.begun+1 }
def qrm (c:GCluster) (net:List ByteArray) (ops:List GOp):GReply × GCluster × List ByteArray :=
 bif decide (c.begun≥32) then (ql3 5,c,net) else
 bif (qdb { id:=c.begun,ops:=ops }).2.2 != 0 then (ql3 (qdb { id:=c.begun,ops:=ops }).2.2,c,net) else
 (okR c.begun [],q6y c ops,qgj net (qdb { id:=c.begun,ops:=ops }).2.1)
theorem qzy (t:GTxn):(qdb t).2.1.length≤6:=by
 unfold qdb
 cases decide (0≤t.id∧t.id<32)
 ·simp
 ·cases qap t.ops
  ·simp
  ·exact againC_small.1
theorem qw3 {fu:Nat} (hfu:1100≤fu) {c:GCluster} {net:List ByteArray} (h:CInv c net) {ops:List GOp}:qlt fu c net ops=some (qrm c net ops):=by
 obtain ⟨h0,h1⟩:=h.begun
 unfold qlt qrm
 by_cases h32:c.begun≥32
 ·rw [qaj (qaf h32),qaj (qaf h32)]
  rfl
 ·rw [qad (qae h32),qad (qae h32),qaa,qsl (by omega),qaa,qaa]
  cases hc:((qdb { id:=c.begun,ops:=ops }).2.2 != 0)
  ·have hl:=qzy { id:=c.begun,ops:=ops }
   rw [cond_false,cond_false,qa4 h0 (by omega),qaa,qnw h0 (by omega),qaa,qbt h0 (by omega),qaa,qaa]
   have e1:IntKind.wrap .i64 (c.begun+1)=c.begun+1:=qds (by omega) (by omega)
   have e2 : ∀ (x:Vector GCase 32),({ c with cases:=x }:GCluster).begun=c.begun:=fun _=>rfl
   rw [e2,e1,qaa,qj0 hfu (by omega),qaa]
   dsimp only
   have e3:IntKind.wrap .i64 (c.begun+1-1)=c.begun:=by rw [qds (by omega) (by omega)];omega
   rw [e3]
   rfl
  ·rfl
def ql5 (c:GCluster) (n:Nat):GCluster:={ c with nodes:=c.nodes.setIfInBounds n zeroN,down:=c.down.setIfInBounds n true,tear:=c.tear.setIfInBounds n 0 }
noncomputable def qdh (c:GCluster) (net:List ByteArray) (n:Nat) (f:GFrame) (s:ByteArray):Int × GCluster × List ByteArray :=
 bif qab c.down n then (6,c,net) else
 bif (qa0 (qab c.nodes n) n f).2.2 != 0 then ((qa0 (qab c.nodes n) n f).2.2,c,net) else
 bif decide (qab c.tear n>0) then (6,ql5 { c with logs:=c.logs.setIfInBounds n (qg0 (qab c.logs n) s (qab c.tear n-1)) } n,net) else
 bif qe4 (qab c.logs n) s != 0 then (qe4 (qab c.logs n) s,{ c with logs:=c.logs.setIfInBounds n (qto (qab c.logs n) s) },net) else
 (0,{ c with logs:=c.logs.setIfInBounds n (qto (qab c.logs n) s),nodes:=c.nodes.setIfInBounds n (qa0 (qab c.nodes n) n f).1 },qgj net (qa0 (qab c.nodes n) n f).2.1)
theorem qrn {log s:ByteArray} {n:Int} (h:log.size≤65536):(qg0 log s n).size≤65536:=by
 unfold qg0
 split
 ·rename_i hc
  have hs:=qgz log s
  rcases qr4 log s with ⟨_,_,_,h4⟩ | ⟨h0,_⟩
  ·rw [ByteArray.size_extract];omega
  ·exact absurd hc h0
 ·exact h
theorem ql6 {log s:ByteArray} (h:log.size≤65536):(qto log s).size≤65536:=by
 have hs:=qgz log s
 rcases qr4 log s with ⟨h0,_,_,h4⟩ | ⟨_,h1⟩
 ·unfold qto;rw [if_pos h0];omega
 ·rw [h1];exact h
theorem q2n {s:GNode} {who:Int} {f:GFrame}:(qa0 s who f).2.1.length≤100:=by
 by_cases h:(qa0 s who f).2.2=0
 ·exact (qw0 h).1
 ·rw [(ql1 h).2];simp
theorem qzz {fu:Nat} (hfu:1100≤fu) {c:GCluster} {net:List ByteArray} (h:CInv c net) {x:Int} (h0:0≤x) (h6:x<6) {f:GFrame} {s:ByteArray} (hs:s.size≤400):qo9 fu c net x f s=some (qdh c net x.toNat f s):=by
 have hn:x.toNat<6:=by omega
 have ex:((x.toNat:Nat):Int)=x:=by omega
 have hg:=h.node _ hn
 have hlog:=h.log _ hn
 have ht:=h.tear _ hn
 unfold qo9 qdh
 rw [qa4 h0 h6,qaa,qnw h0 h6,qaa,ex]
 cases qab c.down x.toNat
 ·rw [cond_false,cond_false,qaa,qnw h0 h6,qaa,qnh hg.sizes (by omega) (by omega),qaa,qaa]
  have hl:=q2n (s:=qab c.nodes x.toNat) (who:=x) (f:=f)
  unfold qlu
  cases h1:((qa0 (qab c.nodes x.toNat) x f).2.2 != 0)
  ·rw [cond_false,cond_false,qa4 h0 h6,qaa,qnw h0 h6,qaa]
   by_cases h2:qab c.tear x.toNat>0
   ·rw [qaj (qaf h2),qaj (qaf h2),qaa,qnw h0 h6,qaa,qaa,qaa,qds (by omega) (by omega),qzk (by omega),qaa,qaa,qho (by have:=qrn (s:=s) (n:=qab c.tear x.toNat-1) hlog;omega),qaa,qaa,qbt h0 h6,qaa,qaa,qaa,qaa,
     qnw h0 h6,qaa,qbt h0 h6,qaa,qaa,qaa,qnw h0 h6,qaa,qbt h0 h6,qaa,qaa,qaa,qnw h0 h6,qaa,qbt h0 h6,qaa,qaa]
    rfl
   ·rw [qad (qae h2),qad (qae h2),qaa,qnw h0 h6,qaa,qpe (by omega),qaa,qaa,qho (by have:=ql6 (s:=s) hlog;dsimp only;omega),qaa,qaa,qbt h0 h6,qaa,qaa]
    cases h3:(qe4 (qab c.logs x.toNat) s != 0)
    ·rw [cond_false,cond_false,qaa,qnw h0 h6,qaa,qbt h0 h6,qaa,qaa,qj0 hfu (by omega),qaa]
    ·rfl
  ·rfl
 ·rfl
noncomputable def frm2 (c:GCluster) (net:List ByteArray) (kind:Int) (f:GFrame) (s:ByteArray):GReply × GCluster × List ByteArray :=
 bif kind==4 then (okR f.id [],c,net) else
 bif f.kind==1||f.kind==3 then
  (bif (qdh c net f.node.toNat f s).1 != 0 then ql3 (qdh c net f.node.toNat f s).1 else okR f.id [],(qdh c net f.node.toNat f s).2.1,(qdh c net f.node.toNat f s).2.2)
 else
  bif (qbz (qab c.cases f.id.toNat) f.id f).2.2 != 0 then (ql3 (qbz (qab c.cases f.id.toNat) f.id f).2.2,c,net)
  else (qw2 { c with cases:=c.cases.setIfInBounds f.id.toNat (qbz (qab c.cases f.id.toNat) f.id f).1 } f.id,{ c with cases:=c.cases.setIfInBounds f.id.toNat (qbz (qab c.cases f.id.toNat) f.id f).1 },qgj net (qbz (qab c.cases f.id.toNat) f.id f).2.1)
def qhg (net:List ByteArray) (x:Int):ByteArray:=net[x.toNat]?.getD ⟨#[]⟩
def qey (net:List ByteArray) (x:Int):GFrame:=(qj7 (byL (qhg net x))).1
noncomputable def ql7 (c:GCluster) (net:List ByteArray) (a:GAct):GReply × GCluster × List ByteArray :=
 bif decide (0≤a.n∧a.n<net.length) then frm2 c (bif a.kind==3 then net else net.eraseIdx a.n.toNat) a.kind (qey net a.n) (qhg net a.n) else (ql3 4,c,net)
theorem q2o (l:List Int):(0≤(qj7 l).1.node∧(qj7 l).1.node<6)∧(0≤(qj7 l).1.id∧(qj7 l).1.id<32):=by
 rcases qzv l with ⟨f,_,hz,h⟩ | h
 ·rw [h];exact (qa6 hz).2
 ·rw [h]
  exact ⟨⟨by show (0:Int)≤0;omega,by show (0:Int)<6;omega⟩,⟨by show (0:Int)≤0;omega,by show (0:Int)<32;omega⟩⟩
theorem CInv.cut {c:GCluster} {net net':List ByteArray} (h:CInv c net) (hs : ∀ s∈net',s∈net) (hl:net'.length≤net.length):CInv c net' :=
 ⟨h.acts,h.begun,h.node,h.down,h.log,h.tear,h.cas,by have:=h.net.1;omega,fun s hm=>h.net.2 s (hs s hm)⟩
theorem ql8 {fu:Nat} (hfu:1100≤fu) {c:GCluster} {net:List ByteArray} (h:CInv c net) {a:GAct} {s:ByteArray} (hs:s.size≤400) {d:GReply}:qfu fu a d s c net=some (frm2 c net a.kind (qj7 (byL s)).1 s):=by
 obtain ⟨⟨n0,n6⟩,i0,i32⟩:=q2o (byL s)
 unfold qfu frm2
 rw [qra (by omega) (by omega),qaa,qaa]
 generalize (qj7 (byL s)).1=f at n0 n6 i0 i32
 cases h4:(a.kind==4)
 ·have hcome:qdz fu d s c net f true=some (bif (qdh c net f.node.toNat f s).1 != 0 then ql3 (qdh c net f.node.toNat f s).1 else okR f.id [],(qdh c net f.node.toNat f s).2.1,(qdh c net f.node.toNat f s).2.2):=by
   rw [qdz,cond_true,qzz hfu h n0 n6 hs,qaa]
   cases ((qdh c net f.node.toNat f s).1 != 0)<;>rfl
  have htake:qdz fu d s c net f false=some (bif (qbz (qab c.cases f.id.toNat) f.id f).2.2 != 0 then (ql3 (qbz (qab c.cases f.id.toNat) f.id f).2.2,c,net)
    else (qw2 { c with cases:=c.cases.setIfInBounds f.id.toNat (qbz (qab c.cases f.id.toNat) f.id f).1 } f.id,{ c with cases:=c.cases.setIfInBounds f.id.toNat (qbz (qab c.cases f.id.toNat) f.id f).1 },qgj net (qbz (qab c.cases f.id.toNat) f.id f).2.1)):=by
   have hl:=(qwu (c:=qab c.cases f.id.toNat) (id:=f.id) (f:=f)).2.1
   rw [qdz,cond_false,qjv,qa4 i0 i32,qaa,qnw i0 i32,qaa,qut (by omega),qaa,qaa,qju]
   cases ((qbz (qab c.cases f.id.toNat) f.id f).2.2 != 0)
   ·rw [cond_false,cond_false,qa4 i0 i32,qaa,qnw i0 i32,qaa,qbt i0 i32,qaa,qaa,qj0 hfu (by omega),qaa,qrl (by omega) i0 i32,qaa,qaa]
   ·rfl
  rw [cond_false,cond_false]
  cases h1:(f.kind==1)
  ·rw [cond_false,Bool.false_or]
   cases h3:(f.kind==3)
   ·rw [htake];rfl
   ·rw [hcome];rfl
  ·rw [cond_true,hcome];rfl
 ·rfl
theorem qw4 {fu:Nat} (hfu:1100≤fu) {c:GCluster} {net:List ByteArray} (h:CInv c net) {a:GAct}:qlv fu c net a=some (ql7 c net a):=by
 obtain ⟨hn1,hn2⟩:=h.net
 unfold qlv ql7 qg9
 by_cases h0:a.n<0
 ·rw [qaj (qaf h0),qae (show ¬ (0≤a.n∧a.n<net.length) by omega)]
  rfl
 ·rw [qad (qae h0)]
  by_cases h1:a.n≥(net.length:Int)
  ·rw [qaf h1,qae (show ¬ (0≤a.n∧a.n<net.length) by omega)]
   rfl
  ·rw [qae h1,qaf (show 0≤a.n∧a.n<net.length by omega),cond_false,cond_true,qjw]
   have hlt:a.n.toNat<net.length:=by omega
   have hi:idx net a.n=some (qhg net a.n):=by
    unfold idx qhg
    rw [if_pos (by omega)]
    simp [hlt]
   have hsz:(qhg net a.n).size≤400:=by
    unfold qhg
    rw [List.getElem?_eq_getElem hlt]
    exact hn2 _ (List.getElem_mem hlt)
   have hk3:(a.kind != 3) = !(a.kind==3):=rfl
   rw [hi,qaa,hk3]
   cases a.kind==3
   ·have hd:q7d net a.n (IntKind.wrap .i64 (a.n+1))=some (net.eraseIdx a.n.toNat):=by
     rw [qds (by omega) (by omega)]
     unfold q7d
     rw [if_pos (by omega),List.eraseIdx_eq_take_drop_succ]
     have:(a.n+1).toNat=a.n.toNat+1:=by omega
     rw [this]
    rw [Bool.not_false,cond_true,cond_false,hd,qaa,qaa]
    exact ql8 hfu (h.cut (fun s hs=>List.mem_of_mem_eraseIdx hs) (List.length_eraseIdx_le ..)) hsz
   ·rw [Bool.not_true,cond_false,cond_true]
    exact ql8 hfu h hsz
noncomputable def qh6 (c:GCluster) (n:Nat):GCluster:={ c with logs:=c.logs.setIfInBounds n ((qab c.logs n).extract 0 (qaq (qab c.logs n).data.toList).2),nodes:=c.nodes.setIfInBounds n (qbc n (qaq (qab c.logs n).data.toList).1 zeroN).1,down:=c.down.setIfInBounds n false }
def ql9 (a:GAct):Bool:=decide (0≤a.n∧a.n<6) && !(a.kind==7 && !decide (0≤a.m∧a.m≤400))
noncomputable def qql (c:GCluster) (net:List ByteArray) (a:GAct):GReply × GCluster × List ByteArray :=
 bif ql9 a then
  bif !(qab c.down a.n.toNat==(a.kind==8)) then (ql3 6,c,net) else
  bif a.kind==7 then (ql3 0,{ c with tear:=c.tear.setIfInBounds a.n.toNat (a.m+1) },net) else
  bif a.kind==6 then (ql3 0,ql5 c a.n.toNat,net) else (ql3 0,qh6 c a.n.toNat,net)
 else (ql3 2,c,net)
theorem qma {fu:Nat} (hfu:70000≤fu) {c:GCluster} {net:List ByteArray} (h:CInv c net) {a:GAct} (h0:0≤a.n) (h6:a.n<6) (hm:(a.kind==7)=true→0≤a.m∧a.m≤400):qcy fu c net a false =
  some (bif !(qab c.down a.n.toNat==(a.kind==8)) then (ql3 6,c,net) else bif a.kind==7 then (ql3 0,{ c with tear:=c.tear.setIfInBounds a.n.toNat (a.m+1) },net) else bif a.kind==6 then (ql3 0,ql5 c a.n.toNat,net) else (ql3 0,qh6 c a.n.toNat,net)):=by
 have hn:a.n.toNat<6:=by omega
 have ex:((a.n.toNat:Nat):Int)=a.n:=by omega
 have hlog:=h.log _ hn
 unfold qcy
 rw [cond_false,qa4 h0 h6,qaa,qnw h0 h6,qaa]
 cases hd:(!(qab c.down a.n.toNat==(a.kind==8)))
 ·rw [cond_false,cond_false]
  cases h7:(a.kind==7)
  ·rw [cond_false,cond_false]
   cases h6k:(a.kind==6)
   ·obtain ⟨r1,r2,r3⟩:=qh3 _ (qab c.logs a.n.toNat).data.toList (Nat.le_refl _)
    have hdl:(qab c.logs a.n.toNat).data.toList.length=(qab c.logs a.n.toNat).size:=rfl
    have hcut:qyr (qab c.logs a.n.toNat) none (some ((qaq (qab c.logs a.n.toNat).data.toList).2:Int))=some ((qab c.logs a.n.toNat).extract 0 (qaq (qab c.logs a.n.toNat).data.toList).2):=by
     unfold qyr qgm
     simp only [Option.getD_some,Option.getD_none]
     rw [if_pos (by omega),Int.toNat_natCast]
     rfl
    have hrep:qes fu a.n (qaq (qab c.logs a.n.toNat).data.toList).1=some (qbc a.n (qaq (qab c.logs a.n.toNat).data.toList).1 zeroN):=by
     rw [qqk (by omega) (by omega) (fun x hx=>by have:=r3 x hx;omega),qaf (show 0≤a.n∧a.n<6 from ⟨h0,h6⟩),cond_true]
    rw [cond_false,cond_false,qaa,qnw h0 h6,qaa,qzl hlog (by omega),qaa,qaa,qaa,hcut,qaa,qaa,qho (by rw [ByteArray.size_extract];omega),qaa,qaa,qbt h0 h6,qaa,qaa,
     hrep,qaa,qaa,qnw h0 h6,qaa,qbt h0 h6,qaa,qaa,qaa,qnw h0 h6,qaa,qbt h0 h6,qaa,qaa]
    unfold qfv qh6
    rw [ex]
    rfl
   ·rw [cond_true,cond_true,qaa,qaa,qnw h0 h6,qaa,qbt h0 h6,qaa,qaa,qaa,qnw h0 h6,qaa,qbt h0 h6,qaa,qaa,qaa,qnw h0 h6,qaa,qbt h0 h6,qaa,qaa]
    rfl
  ·have:=hm h7
   rw [cond_true,cond_true,qaa,qnw h0 h6,qaa,qds (by omega) (by omega),qbt h0 h6,qaa,qaa]
   rfl
 ·rfl
theorem qw5 {fu:Nat} (hfu:70000≤fu) {c:GCluster} {net:List ByteArray} (h:CInv c net) {a:GAct}:qlw fu c net a=some (qql c net a):=by
 have hno:qcy fu c net a true=some (ql3 2,c,net):=rfl
 unfold qlw qql ql9
 by_cases h0:a.n<0
 ·rw [qaj (qaf h0),qae (show ¬ (0≤a.n∧a.n<6) by omega),hno]
  rfl
 ·rw [qad (qae h0)]
  by_cases h6:a.n≥6
  ·rw [qaj (qaf h6),qae (show ¬ (0≤a.n∧a.n<6) by omega),hno]
   rfl
  ·rw [qad (qae h6),qaf (show 0≤a.n∧a.n<6 by omega),Bool.true_and]
   cases h7:(a.kind==7)
   ·rw [cond_false,Bool.false_and,Bool.not_false,cond_true,qma hfu h (by omega) (by omega) (fun e=>by rw [h7] at e;cases e),h7]
   ·rw [cond_true,Bool.true_and]
    by_cases m0:a.m<0
    ·rw [qaj (qaf m0),qae (show ¬ (0≤a.m∧a.m≤400) by omega),hno]
     rfl
    ·rw [qad (qae m0)]
     by_cases m4:a.m>400
     ·rw [qaf m4,qae (show ¬ (0≤a.m∧a.m≤400) by omega),hno]
      rfl
     ·rw [qae m4,qaf (show 0≤a.m∧a.m≤400 by omega),qma hfu h (by omega) (by omega) (fun _=>by omega),h7]
      rfl
def q2p (c:GCluster) (net:List ByteArray) (a:GAct):GReply × GCluster × List ByteArray :=
 bif decide (0≤a.n∧a.n<c.begun) then (qw2 c a.n,c,qgj net (qe9 (qab c.cases a.n.toNat) a.n)) else (ql3 4,c,net)
noncomputable def doA (c:GCluster) (net:List ByteArray) (a:GAct):GReply × GCluster × List ByteArray :=
 bif a.kind==1 then qrm c net a.ops else
 bif a.kind==2||(a.kind==3||a.kind==4) then ql7 c net a else
 bif a.kind==5 then q2p c net a else
 bif a.kind==6||(a.kind==7||a.kind==8) then qql c net a else (ql3 3,c,net)
noncomputable def qfq (c:GCluster) (net:List ByteArray) (a:GAct):GReply × GCluster × List ByteArray :=
 bif decide (c.acts≥400) then (ql3 5,c,net) else doA { c with acts:=c.acts+1 } net a
theorem CInv.act {c:GCluster} {net:List ByteArray} (h:CInv c net) (ha : ¬ c.acts≥400):CInv { c with acts:=c.acts+1 } net :=
 ⟨by have:=h.acts;exact ⟨by show 0≤c.acts+1;omega,by show c.acts+1≤400;omega⟩,h.begun,h.node,h.down,h.log,h.tear,h.cas,h.net⟩
theorem qz0 {fu:Nat} (hfu:70000≤fu) {c:GCluster} {net:List ByteArray} (h:CInv c net) {a:GAct} (h0:0≤a.n) (h1:a.n<c.begun) {d:GReply}:qpa fu net a c d=some (qw2 c a.n,c,qgj net (qe9 (qab c.cases a.n.toNat) a.n)):=by
 have:=h.begun.2
 have hl:=(againC_small (c:=qab c.cases a.n.toNat) (id:=a.n)).1
 unfold qpa
 rw [qa4 h0 (by omega),qaa,qnw h0 (by omega),qaa,qpx (by omega),qaa,qj0 (by omega) (by omega),qaa,qrl (by omega) h0 (by omega),qaa,qaa]
theorem qye {fu:Nat} (hfu:70000≤fu) {c:GCluster} {net:List ByteArray} (h:CInv c net) {a:GAct}:qt5 fu c net a=some (qfq c net a):=by
 unfold qt5 qfq
 by_cases ha:c.acts≥400
 ·rw [qaj (qaf ha),qaj (qaf ha)]
  rfl
 ·have hi:=h.act ha
  have hacts:=h.acts
  rw [qad (qae ha),qad (qae ha),qds (by omega) (by omega),qaa]
  generalize ({ c with acts:=c.acts+1 }:GCluster)=d at hi
  unfold doA
  have hfr : ∀ (b:Bool),b=true→qi9 fu net a d b=some (ql7 d net a):=fun b hb=>by
   rw [qi9,hb,cond_true,qw4 (by omega) hi]
   rfl
  have hpo : ∀ (b:Bool),b=true→qkx fu net a d b=some (qql d net a):=fun b hb=>by
   rw [qkx,hb,cond_true,qw5 hfu hi]
   rfl
  cases k1:(a.kind==1)
  ·rw [cond_false,cond_false]
   cases k2:(a.kind==2)
   ·rw [cond_false,Bool.false_or]
    cases k3:(a.kind==3)
    ·rw [cond_false,Bool.false_or]
     cases k4:(a.kind==4)
     ·rw [cond_false,qi9,cond_false]
      cases k5:(a.kind==5)
      ·rw [cond_false,cond_false]
       cases k6:(a.kind==6)
       ·rw [cond_false,Bool.false_or]
        cases k7:(a.kind==7)
        ·rw [cond_false,Bool.false_or]
         cases k8:(a.kind==8)
         ·rfl
         ·rw [hpo true rfl];rfl
        ·rw [hpo true rfl];rfl
       ·rw [hpo true rfl];rfl
      ·rw [cond_true,cond_true]
       unfold q2p qpb
       by_cases n0:a.n<0
       ·rw [qaj (qaf n0),qae (show ¬ (0≤a.n∧a.n<d.begun) by omega)]
        rfl
       ·rw [qad (qae n0)]
        by_cases nb:a.n≥d.begun
        ·rw [qaf nb,qae (show ¬ (0≤a.n∧a.n<d.begun) by omega)]
         rfl
        ·rw [qae nb,qaf (show 0≤a.n∧a.n<d.begun by omega),cond_false,cond_true]
         exact qz0 hfu hi (by omega) (by omega)
     ·rw [hfr true rfl];rfl
    ·rw [cond_true,hfr true rfl];rfl
   ·rw [cond_true,hfr true rfl];rfl
  ·rw [cond_true,cond_true,qw3 (by omega) hi,qaa,qaa]
end Go.Proofs.Yteilffoclpgijaa
namespace Go.Proofs.Yteilffoclpgijaa
open Go.RowKit
open Rep (rep)
theorem qu2 (a b:List Int):qav (qgx a b)=true:=(qqe a b 32 (by omega)).1
theorem qgk {n:Nat} {v:Vector Bool n} {i j:Nat} {x:Bool} (hi:i<n):qam (v.setIfInBounds i x) j=if i=j then x else qam v j:=by
 unfold qam
 by_cases hj:j<n
 ·simp only [Vector.getElem?_setIfInBounds,hi]
  by_cases e:i=j
  ·subst e;simp
  ·simp [e]
 ·have hij:i≠j:=by omega
  simp [hj,hij]
structure Gathers (t:GTxn) (told:Vector Bool 6) (c:GCase) (deps:List Int):Prop where
 htold:c.told=told
 hdeps:c.deps=deps
 hops:c.ops=t.ops
 small:deps.length≤32
 enough:c.fixed=true→qcb c=true
theorem qfc {c d:GCase} (h1:c.ops=d.ops) (h2:c.told=d.told):qcb c=qcb d:=by unfold qcb;rw [h1,h2]
theorem Gathers.same {t:GTxn} {told:Vector Bool 6} {c d:GCase} {deps:List Int} (h:Gathers t told c deps) (h1:d.told=c.told) (h2:d.deps=c.deps) (h3:d.ops=c.ops) (h4:d.fixed=c.fixed):Gathers t told d deps :=
 ⟨h1.trans h.htold,h2.trans h.hdeps,h3.trans h.hops,h.small,fun hf=>by rw [qfc h3 h1];exact h.enough (by rw [← h4];exact hf)⟩
structure OfTxn (t:GTxn) (c:GCase):Prop where
 begun:c.begun=true
 ops:c.ops=t.ops
 good:qap t.ops=true
 none:c.fixed=false → ∀ k,qam c.has k=false
theorem q2q (k:Int):qas k=0∨qas k=1:=by
 unfold qas
 split
 ·exact .inl rfl
 ·exact .inr rfl
theorem qmu {has:Nat→Bool} {s:Int} : ∀ (l:List GOp) (k:Nat),qia has s l k=true → ∀ i o,l[i]? = some o→qas o.key=s→has (k+i)=true
 | [],_,_,i,o,h,_=>by simp at h
 | a::t,k,h,i,o,hi,hs=>by
  rw [qia] at h
  cases hb:(qas a.key==s && !has k) with
  | true=>rw [hb] at h;cases h
  | false =>
   rw [hb] at h
   cases i with
   | zero =>
    cases hi
    have e:(qas a.key==s)=true:=by simp [hs]
    rw [e,Bool.true_and] at hb
    simpa using hb
   | succ i =>
    have:=qmu t (k+1) h i o hi hs
    rw [show k+(i+1)=k+1+i from by omega]
    exact this
theorem qro {c:GCase} (h0:qbv c 0=true) (h1:qbv c 1=true) {i:Nat} (hi:i<c.ops.length):qam c.has i=true:=by
 have hx:c.ops[i]? = some c.ops[i]:=by simp
 rcases q2q c.ops[i].key with h | h
 ·have:=qmu c.ops 0 h0 i _ hx h
  rwa [Nat.zero_add] at this
 ·have:=qmu c.ops 0 h1 i _ hx h
  rwa [Nat.zero_add] at this
theorem qmv {c:GCase} (h:(qct c).2=true):c.begun=true∧qc3 c=true∧qbv c 0=true∧qbv c 1=true∧(qct c).1=c.values.toList.take c.ops.length:=by
 unfold qct at h ⊢
 cases h1:c.begun&&(qc3 c&&(qbv c 0&&qbv c 1)) with
 | false=>rw [h1] at h;cases h
 | true =>
  simp only [Bool.and_eq_true] at h1
  exact ⟨h1.1,h1.2.1,h1.2.2.1,h1.2.2.2,rfl⟩
theorem OfTxn.len {t:GTxn} {c:GCase} (h:OfTxn t c):0<c.ops.length∧c.ops.length≤4:=by
 rw [h.ops];exact qci h.good
theorem OfTxn.fixed {t:GTxn} {c:GCase} (h:OfTxn t c) (hr:(qct c).2=true):c.fixed=true:=by
 obtain ⟨_,_,h0,h1,_⟩:=qmv hr
 cases hf:c.fixed with
 | true=>rfl
 | false =>
  have:=qro h0 h1 h.len.1
  rw [h.none hf 0] at this
  cases this
theorem OfTxn.length {t:GTxn} {c:GCase} (h:OfTxn t c) (hr:(qct c).2=true):(qct c).1.length=t.ops.length:=by
 obtain ⟨_,_,_,_,e⟩:=qmv hr
 have:=h.len
 rw [e,List.length_take,h.ops]
 rw [h.ops] at this
 simp
 omega
theorem qrp {sh:Int} : ∀ {at_ vs:List Int} {c:GCase},(∀ n∈at_,0≤n)→(∀ i,i<c.ops.length→qam c.has i=true)→qdn sh c at_ vs=c
 | [],_,_,_,_=>by unfold qdn;rfl
 | _::_,[],_,_,_=>by unfold qdn;rfl
 | k::at_,v::vs,c,hn,h=>by
  have e:qbr sh c k v=c:=by
   unfold qbr
   by_cases hk:k<(c.ops.length:Int)
   ·have h0:=hn k List.mem_cons_self
    rw [h k.toNat (by omega)]
    simp
   ·rw [qae hk];rfl
  unfold qdn
  rw [e]
  exact qrp (fun n hm=>hn n (List.mem_cons_of_mem _ hm)) h
theorem qp2 {c:GCase} {id:Int} {f:GFrame} (h:(qbz c id f).2.2=0):qak f=0∧(((qbz c id f).1=c)∨(c.fixed=false∧(qbz c id f).1=qnt (qdo c f))∨(c.fixed=true∧(qbz c id f).1={ c with known:=c.known.setIfInBounds f.node.toNat true })∨(c.fixed=true∧(qbz c id f).1=qdn (ofZ f.node) c f.at_ f.vals)):=by
 unfold qbz at h ⊢
 cases ht:qnu c id f
 ·rw [ht] at h;simp at h
 ·rw [ht] at h
  simp only [cond_true] at h ⊢
  cases hz:(qak f==0)
  ·rw [hz] at h
   simp only [cond_false] at h
   rw [h] at hz;cases hz
  ·refine ⟨by simpa using hz,?_⟩
   rw [hz] at h
   simp only [cond_true] at h ⊢
   unfold qa1 at h ⊢
   cases hk2:(f.kind==2)
   ·simp only [cond_false]
    cases hk4:(f.kind==4)
    ·simp only [cond_false]
     cases hk5:(f.kind==5)
     ·rw [hk2,hk4,hk5] at h;simp at h
     ·cases hfx:c.fixed
      ·exact .inl rfl
      ·exact .inr (.inr (.inr ⟨rfl,rfl⟩))
    ·cases hfx:c.fixed
     ·exact .inl rfl
     ·exact .inr (.inr (.inl ⟨rfl,rfl⟩))
   ·simp only [cond_true]
    cases hfx:c.fixed
    ·cases (qam c.told f.node.toNat || !qac c.ops (ofZ f.node))
     ·exact .inr (.inl ⟨rfl,rfl⟩)
     ·exact .inl rfl
    ·exact .inl rfl
theorem qrq {c d:GCase} (h1:d.begun=c.begun) (h2:d.ops=c.ops) (h3:d.deps=c.deps) (hb:c.begun=true):qc3 d=qc3 c:=by
 unfold qc3
 rw [h1,h2,h3,hb]
 rfl
theorem OfTxn.take {t:GTxn} {c:GCase} (h:OfTxn t c) {f:GFrame} (h0:(qbz c t.id f).2.2=0):OfTxn t (qbz c t.id f).1∧((qct c).2=true→qct (qbz c t.id f).1=qct c):=by
 obtain ⟨hz,hk⟩:=qp2 h0
 rcases hk with e | ⟨hf,e⟩ | ⟨hf,e⟩ | ⟨hf,e⟩
 ·rw [e];exact ⟨h,fun _=>rfl⟩
 ·rw [e]
  refine ⟨⟨h.begun,h.ops,h.good,fun _=>h.none hf⟩,fun hr => ?_⟩
  rw [h.fixed hr] at hf;cases hf
 ·rw [e]
  refine ⟨⟨h.begun,h.ops,h.good,fun hn => ?_⟩,fun _ => ?_⟩
  ·have hn:c.fixed=false:=hn
   rw [hn] at hf;cases hf
  ·unfold qct
   have hg:qc3 { c with known:=c.known.setIfInBounds f.node.toNat true }=qc3 c:=qrq rfl rfl rfl h.begun
   rw [hg]
   rfl
 ·rw [e]
  have hd:=doneL_same (sh:=ofZ f.node) (at_:=f.at_) (vs:=f.vals) (c:=c)
  refine ⟨⟨hd.2.2.1.trans h.begun,hd.1.trans h.ops,h.good,fun hn => ?_⟩,fun hr => ?_⟩
  ·rw [hd.2.1,hf] at hn;cases hn
  ·obtain ⟨_,_,w0,w1,_⟩:=qmv hr
   rw [qrp (fun n hn=>((qwt hz).mem n hn).1) fun i hi=>qro w0 w1 hi]
end Go.Proofs.Yteilffoclpgijaa
namespace Go.Proofs.Yteilffoclpgijaa
open Go.RowKit
open Rep (rep)
theorem qw6 {c:GCase} {id:Int} {f:GFrame} (h:(qbz c id f).2.2=0):qnu c id f=true:=by
 unfold qbz at h
 cases ht:qnu c id f
 ·rw [ht] at h
  exact absurd (show (2:Int)=0 from h) (by decide)
 ·rfl
theorem q4u {c:GCase} {id:Int} {f:GFrame} (h:(qbz c id f).2.2≠0):(qbz c id f).1=c∧(qbz c id f).2.1=[]:=by
 unfold qbz at *
 cases ht:qnu c id f
 ·exact ⟨rfl,rfl⟩
 ·rw [ht,cond_true] at h
  rw [cond_true]
  cases hz:(qak f==0)
  ·exact ⟨rfl,rfl⟩
  ·rw [hz,cond_true] at h
   rw [cond_true]
   unfold qa1 at *
   cases h2:(f.kind==2)
   ·rw [h2,cond_false] at h
    rw [cond_false]
    cases h4:(f.kind==4)
    ·rw [h4,cond_false] at h
     rw [cond_false]
     cases h5:(f.kind==5)
     ·exact ⟨rfl,rfl⟩
     ·rw [h5,cond_true] at h
      cases hf:c.fixed
      ·exact ⟨rfl,rfl⟩
      ·rw [hf] at h;exact absurd rfl h
    ·rw [h4,cond_true] at h
     cases hf:c.fixed
     ·exact ⟨rfl,rfl⟩
     ·rw [hf] at h;exact absurd rfl h
   ·rw [h2,cond_true] at h
    cases hb:(c.fixed||(qam c.told f.node.toNat || !qac c.ops (ofZ f.node)))
    ·rw [hb] at h;exact absurd rfl h
    ·exact ⟨rfl,rfl⟩
theorem qk1 {c:GCase} (h:qc3 c=true) (hb:c.begun=true):qap c.ops=true∧qav c.deps=true:=by
 unfold qc3 at h
 rw [hb,cond_true,Bool.and_eq_true] at h
 exact h
theorem qss {c:GCase} (hb:c.begun=true) (h1:qap c.ops=true) (h2:qav c.deps=true):qc3 c=true:=by
 unfold qc3
 rw [hb,cond_true,h1,h2]
 rfl
theorem qrr {c:GCase} {id:Int} {f:GFrame} (h:qc3 c=true):qc3 (qbz c id f).1=true:=by
 by_cases hz:(qbz c id f).2.2=0
 ·have ht:=qw6 hz
  unfold qnu at ht
  simp only [Bool.and_eq_true] at ht
  have hb:=ht.2.1
  obtain ⟨h1,h2⟩:=qk1 h hb
  obtain ⟨_,e | ⟨_,e⟩ | ⟨_,e⟩ | ⟨_,e⟩⟩:=qp2 hz
  ·rw [e];exact h
  ·rw [e];exact qss hb h1 (qu2 _ _)
  ·rw [e];exact qss hb h1 h2
  ·rw [e,qrq doneL_same.2.2.1 doneL_same.1 doneL_same.2.2.2.1 hb];exact h
 ·rw [(q4u hz).1];exact h
theorem qst:qc3 noC=true:=by decide +kernel
theorem qw7 (t:GTxn):qc3 (qdb t).1=true:=by
 unfold qdb
 cases decide (0≤t.id∧t.id<32)
 ·exact qst
 ·cases h:qap t.ops
  ·exact qst
  ·exact qss rfl h (show qav []=true by decide)
theorem CInv.sent {c:GCluster} {net:List ByteArray} (h:CInv c net) (l:List GFrame):CInv c (qgj net l) :=
 ⟨h.acts,h.begun,h.node,h.down,h.log,h.tear,h.cas,qk0 l net h.net.1 h.net.2⟩
theorem CInv.setCase {c:GCluster} {net:List ByteArray} (h:CInv c net) {n:Nat} (hn:n<32) {x:GCase} (hx:qc3 x=true):CInv { c with cases:=c.cases.setIfInBounds n x } net:=by
 refine ⟨h.acts,h.begun,h.node,h.down,h.log,h.tear,fun k hk => ?_,h.net⟩
 show qc3 (qab (c.cases.setIfInBounds n x) k)=true
 rw [qan hn]
 by_cases e:n=k
 ·rw [if_pos e];exact hx
 ·rw [if_neg e];exact h.cas k hk
theorem CInv.setLog {c:GCluster} {net:List ByteArray} (h:CInv c net) {n:Nat} (hn:n<6) {x:ByteArray} (hx:x.size≤65536):CInv { c with logs:=c.logs.setIfInBounds n x } net:=by
 refine ⟨h.acts,h.begun,h.node,h.down,fun k hk => ?_,h.tear,h.cas,h.net⟩
 show (qab (c.logs.setIfInBounds n x) k).size≤65536
 rw [qan hn]
 by_cases e:n=k
 ·rw [if_pos e];exact hx
 ·rw [if_neg e];exact h.log k hk
theorem CInv.setTear {c:GCluster} {net:List ByteArray} (h:CInv c net) {n:Nat} (hn:n<6) {x:Int} (hx:0≤x∧x≤401):CInv { c with tear:=c.tear.setIfInBounds n x } net:=by
 refine ⟨h.acts,h.begun,h.node,h.down,h.log,fun k hk => ?_,h.cas,h.net⟩
 show 0≤qab (c.tear.setIfInBounds n x) k∧qab (c.tear.setIfInBounds n x) k≤401
 rw [qan hn]
 by_cases e:n=k
 ·rw [if_pos e];exact hx
 ·rw [if_neg e];exact h.tear k hk
theorem CInv.setNode {c:GCluster} {net:List ByteArray} (h:CInv c net) {n:Nat} (hn:n<6) {x:GNode} {b:Bool} (hx:GoodN x) (hb:b=true→x=zeroN):CInv { c with nodes:=c.nodes.setIfInBounds n x,down:=c.down.setIfInBounds n b } net:=by
 refine ⟨h.acts,h.begun,fun k hk => ?_,fun k hk => ?_,h.log,h.tear,h.cas,h.net⟩
 ·show GoodN (qab (c.nodes.setIfInBounds n x) k)
  rw [qan hn]
  by_cases e:n=k
  ·rw [if_pos e];exact hx
  ·rw [if_neg e];exact h.node k hk
 ·show qab (c.down.setIfInBounds n b) k=true→qab (c.nodes.setIfInBounds n x) k=zeroN
  rw [qan hn,qan hn]
  by_cases e:n=k
  ·rw [if_pos e,if_pos e];exact hb
  ·rw [if_neg e,if_neg e];exact h.down k hk
theorem CInv.fall {c:GCluster} {net:List ByteArray} (h:CInv c net) {n:Nat} (hn:n<6):CInv (ql5 c n) net :=
 (h.setNode hn (b:=true) qfa fun _=>rfl).setTear hn ⟨by omega,by omega⟩
theorem qmb {c:GCluster} {n:Nat} {b:Bool} (h:qab c.down n=b) (hn:n<6):c.down.setIfInBounds n b=c.down:=by
 refine Vector.ext fun i hi => ?_
 rw [Vector.getElem_setIfInBounds]
 by_cases e:n=i
 ·subst e
  rw [if_pos rfl,← h]
  unfold qab
  simp [hi]
 ·rw [if_neg e]
theorem CInv.come {c:GCluster} {net:List ByteArray} (h:CInv c net) {n:Nat} (hn:n<6) {f:GFrame} {s:ByteArray}:CInv (qdh c net n f s).2.1 (qdh c net n f s).2.2:=by
 have hlog:=h.log n hn
 unfold qdh
 cases hd:qab c.down n
 ·rw [cond_false]
  cases h1:((qa0 (qab c.nodes n) n f).2.2 != 0)
  ·have h1:(qa0 (qab c.nodes n) n f).2.2=0:=by simpa using h1
   rw [cond_false]
   by_cases h2:qab c.tear n>0
   ·rw [qaj (qaf h2)]
    exact (h.setLog hn (qrn hlog)).fall hn
   ·rw [qad (qae h2)]
    cases h3:(qe4 (qab c.logs n) s != 0)
    ·have h':=((h.setLog hn (ql6 (s:=s) hlog)).setNode hn (x:=(qa0 (qab c.nodes n) n f).1) (b:=false) (qex h1) fun e=>by cases e).sent (qa0 (qab c.nodes n) n f).2.1
     have e:=qmb hd hn
     have e:({ c with logs:=c.logs.setIfInBounds n (qto (qab c.logs n) s) }:GCluster).down.setIfInBounds n false=c.down:=e
     rw [e] at h'
     exact h'
    ·exact h.setLog hn (ql6 hlog)
  ·exact h
 ·exact h
theorem CInv.beg {c:GCluster} {net:List ByteArray} (h:CInv c net) {ops:List GOp}:CInv (qrm c net ops).2.1 (qrm c net ops).2.2:=by
 obtain ⟨h0,h1⟩:=h.begun
 unfold qrm
 by_cases h32:c.begun≥32
 ·rw [qaj (qaf h32)];exact h
 ·rw [qad (qae h32)]
  cases hc:((qdb { id:=c.begun,ops:=ops }).2.2 != 0)
  ·have h':=(h.setCase (n:=c.begun.toNat) (by omega) (qw7 { id:=c.begun,ops:=ops })).sent (qdb { id:=c.begun,ops:=ops }).2.1
   exact ⟨h'.acts,⟨by show 0≤c.begun+1;omega,by show c.begun+1≤32;omega⟩,h'.node,h'.down,h'.log,h'.tear,h'.cas,h'.net⟩
  ·exact h
theorem CInv.frm2 {c:GCluster} {net:List ByteArray} (h:CInv c net) {kind:Int} {f:GFrame} {s:ByteArray} (hn:0≤f.node∧f.node<6) (hi:0≤f.id∧f.id<32):CInv (frm2 c net kind f s).2.1 (frm2 c net kind f s).2.2:=by
 unfold Go.Proofs.Yteilffoclpgijaa.frm2
 cases (kind==4)
 ·cases (f.kind==1||f.kind==3)
  ·rw [cond_false,cond_false]
   cases ((qbz (qab c.cases f.id.toNat) f.id f).2.2 != 0)
   ·exact (h.setCase (by omega) (qrr (h.cas _ (by omega)))).sent _
   ·exact h
  ·exact h.come (by omega)
 ·exact h
theorem CInv.frm {c:GCluster} {net:List ByteArray} (h:CInv c net) {a:GAct}:CInv (ql7 c net a).2.1 (ql7 c net a).2.2:=by
 unfold ql7
 obtain ⟨hn,hi⟩:=q2o (byL (qhg net a.n))
 cases decide (0≤a.n∧a.n<net.length)
 ·exact h
 ·rw [cond_true]
  refine CInv.frm2 ?_ hn hi
  cases (a.kind==3)
  ·exact h.cut (fun s hs=>List.mem_of_mem_eraseIdx hs) (List.length_eraseIdx_le ..)
  ·exact h
theorem CInv.pow {c:GCluster} {net:List ByteArray} (h:CInv c net) {a:GAct}:CInv (qql c net a).2.1 (qql c net a).2.2:=by
 unfold qql
 cases hp:ql9 a
 ·exact h
 ·unfold ql9 at hp
  simp only [Bool.and_eq_true,decide_eq_true_eq] at hp
  obtain ⟨⟨h0,h6⟩,hm⟩:=hp
  have hn:a.n.toNat<6:=by omega
  rw [cond_true]
  cases (!(qab c.down a.n.toNat==(a.kind==8)))
  ·rw [cond_false]
   cases h7:(a.kind==7)
   ·rw [cond_false]
    cases (a.kind==6)
    ·have hr:CInv (qh6 c a.n.toNat) net:=(h.setLog hn (x:=(qab c.logs a.n.toNat).extract 0 (qaq (qab c.logs a.n.toNat).data.toList).2) (by have:=h.log _ hn;rw [ByteArray.size_extract];omega)).setNode hn (b:=false) (qgs _ qfa) fun e=>by cases e
     exact hr
    ·exact h.fall hn
   ·rw [h7] at hm
    simp only [Bool.true_and,Bool.not_not,decide_eq_true_eq] at hm
    exact h.setTear hn ⟨by omega,by omega⟩
  ·exact h
theorem CInv.do {c:GCluster} {net:List ByteArray} (h:CInv c net) {a:GAct}:CInv (qfq c net a).2.1 (qfq c net a).2.2:=by
 unfold qfq
 by_cases ha:c.acts≥400
 ·rw [qaj (qaf ha)];exact h
 ·rw [qad (qae ha)]
  have hi:=h.act ha
  unfold doA
  cases (a.kind==1)
  ·rw [cond_false]
   cases (a.kind==2||(a.kind==3||a.kind==4))
   ·rw [cond_false]
    cases (a.kind==5)
    ·rw [cond_false]
     cases (a.kind==6||(a.kind==7||a.kind==8))
     ·exact hi
     ·exact hi.pow
    ·rw [cond_true]
     unfold q2p
     cases decide (0≤a.n∧a.n<({ c with acts:=c.acts+1 }:GCluster).begun)
     ·exact hi
     ·exact hi.sent _
   ·exact hi.frm
  ·exact hi.beg
def newCl:GCluster:={ nodes:=Zr.zd,logs:=Zr.zd,down:=Zr.zd,tear:=Zr.zd,cases:=Zr.zd,begun:=Zr.zd,net:=Zr.zd,acts:=Zr.zd }
theorem q2r {fu:Nat}:qt6 fu=some (newCl,[]):=rfl
theorem q2s:CInv newCl []:=by
 refine ⟨⟨by show (0:Int)≤0;omega,by show (0:Int)≤400;omega⟩,⟨by show (0:Int)≤0;omega,by show (0:Int)≤32;omega⟩,fun n _ => ?_,fun n _ _ => ?_,fun n _ => ?_,fun n _ => ?_,fun n _ => ?_,by simp,by simp⟩
 ·show GoodN (qab (Zr.zd:Vector GNode 6) n)
  rw [qee];exact qfa
 ·show qab (Zr.zd:Vector GNode 6) n=zeroN
  rw [qee];rfl
 ·show (qab (Zr.zd:Vector ByteArray 6) n).size≤65536
  rw [qee]
  show (⟨#[]⟩:ByteArray).size≤65536
  decide
 ·show 0≤qab (Zr.zd:Vector Int 6) n∧qab (Zr.zd:Vector Int 6) n≤401
  rw [qee]
  exact ⟨by show (0:Int)≤0;omega,by show (0:Int)≤401;omega⟩
 ·show qc3 (qab (Zr.zd:Vector GCase 32) n)=true
  rw [qee]
  exact qst
noncomputable def goZ:GCluster→List ByteArray→List GAct→List GReply × GCluster × List ByteArray
 | c,net,[]=>([],c,net)
 | c,net,a::t=>((qfq c net a).1::(goZ (qfq c net a).2.1 (qfq c net a).2.2 t).1,(goZ (qfq c net a).2.1 (qfq c net a).2.2 t).2)
theorem qw8 {fu:Nat} (hfu:70000≤fu) {l:List GAct} (hl:l.length≤17592186043904) : ∀ (n m k:Nat) (c:GCluster) (net:List ByteArray),k+m=150→m<n→CInv c net→qfm fu l n c net k=some ((goZ c net ((l.take 150).drop k)).2.1,true,(goZ c net ((l.take 150).drop k)).2.2):=by
 intro n
 induction n with
 | zero=>intro m k c net _ h;omega
 | succ n ih =>
  intro m k c net hk hn h
  rw [qfm]
  have hstop : ¬ (k<l.length∧k<150)→(l.take 150).drop k=[]:=fun hno=>List.drop_of_length_le (by rw [List.length_take];omega)
  by_cases h1:(k:Int)<(l.length:Int)
  ·rw [qaj (qaf h1)]
   by_cases h2:(k:Int)<150
   ·have hlt:k<l.length:=by omega
    have hd:(l.take 150).drop k=l[k]::(l.take 150).drop (k+1):=by
     rw [List.drop_eq_getElem_cons (by rw [List.length_take];omega),List.getElem_take]
    obtain ⟨m',rfl⟩ : ∃ m',m=m'+1:=⟨m-1,by omega⟩
    rw [qaf h2,qh0,cond_true,qn6,qbm,List.getElem?_eq_getElem hlt,qaa,qye hfu h,qaa,qaa,qaa,hd]
    have hq : ∀ (c:GCluster) (a:GAct) (r:GReply),qxx fu c a r=some true:=fun _ _ _=>rfl
    rw [hq,qaa,qad (c := !true) rfl,q9s k (by omega),ih m' (k+1) _ _ (by omega) (by omega) h.do]
    rfl
   ·rw [qae h2,qh0,cond_false,hstop (by omega)]
    rfl
  ·rw [qad (qae h1),qh0,cond_false,hstop (by omega)]
   rfl
end Go.Proofs.Yteilffoclpgijaa
namespace Go.Proofs.Yteilffoclpgijaa
open Go.RowKit
theorem q6z:qt7 70000=some true:=by decide +kernel
end Go.Proofs.Yteilffoclpgijaa
namespace Go.Proofs.Yteilffoclpgijaa
open Go.RowKit
open Rep (rep)
theorem qnk {fu:Nat} {l:List GOp} (h:l.length*24≤140737488351232):qe6 fu l=some l:=by
 have hb:Rep.bytes GOp=24:=rfl
 unfold qe6
 rw [qbx (by rw [hb];simpa using h)]
 rfl
theorem qsu {fu:Nat} {l:List ByteArray} (h:l.length≤1000):qg8 fu l=some l:=by
 have hb:Rep.bytes ByteArray=16:=rfl
 unfold qg8
 rw [qbx (by rw [hb];simp only [List.length_nil];omega)]
 rfl
theorem q2t {fu N:Nat} {e:GEntry} (h:ESz e N):qt2 fu e=some e:=by
 unfold qt2
 rw [qnk h.ops.2,qaa,qcu h.first.2,qaa,qcu h.deps.2,qaa,qcu h.at_.2,qaa,qcu h.values.2,qaa]
 rfl
theorem qnl {fu N:Nat} {c:GCluster} {x:Int} (h0:0≤x) (h6:x<6) {s:GNode} (hs:NSz s N) : ∀ (n m k:Nat),k+m=32→m<n→qed fu c x n s k=some (s,qab c.down x.toNat)
 | 0,m,k,_,h=>absurd h (by omega)
 | n+1,0,k,hk,_=>by rw [qed,qad (qae (by omega)),qa4 h0 h6,qaa,qnw h0 h6,qaa,qaa]
 | n+1,m+1,k,hk,hn=>by
  have hk32:k<32:=by omega
  rw [qed,qaj (qaf (by omega)),qa4 (by omega) (by omega),qaa,qwq hk32,qaa,q2t (hs.ent k),qaa,qaa,qaa,q7f hk32,quy hk32,qaa,qaa,q9s k (by omega)]
  exact qnl h0 h6 hs n m (k+1) (by omega) (by omega)
theorem qmw {fu:Nat} (hfu:100≤fu) {c:GCluster} {net:List ByteArray} (h:CInv c net) {x:Int} (h0:0≤x) (h6:x<6):qi5 fu c x=some (qab c.nodes x.toNat,qab c.down x.toNat):=by
 have hg:=h.node x.toNat (by omega)
 unfold qi5 qi4
 rw [qad (qae (by omega)),qae (by omega),cond_false,qlp,qa4 h0 h6,qaa,qnw h0 h6,qaa,qaa,qcu hg.sizes.order.2,qaa,qaa]
 exact qnl h0 h6 hg.sizes fu 32 0 (by omega) (by omega)
theorem qw9 {c:GCase} (h:qc3 c=true):c.ops.length≤4∧c.deps.length≤33:=by
 cases hb:c.begun
 ·unfold qc3 at h
  rw [hb] at h
  simp only [cond_false,Bool.and_eq_true,beq_iff_eq] at h
  omega
 ·obtain ⟨h1,h2⟩:=qk1 h hb
  have:=qci h1
  have:=qhc h2
  omega
theorem qmx {fu:Nat} {c:GCluster} {net:List ByteArray} (h:CInv c net) {x:Int} (h0:0≤x) (h1:x<32):qmn fu c x=some (qab c.cases x.toNat):=by
 obtain ⟨g1,g2⟩:=qw9 (h.cas x.toNat (by omega))
 unfold qmn qi6
 rw [qad (qae (by omega)),qae (by omega),cond_false,qlr,qa4 h0 h1,qaa,qnw h0 h1,qaa,qaa,qnk (by omega),qaa,qcu (by omega),qaa,qaa,qaa,qaa]
theorem qmc {fu:Nat} {c:GCluster} {net:List ByteArray} (h:CInv c net):qo8 fu c net=some (net,net):=by
 unfold qo8
 rw [qsu (by have:=h.net.1;omega),qaa]
structure Alike (c d:GCluster):Prop where
 nodes:c.nodes=d.nodes
 down:c.down=d.down
 logs:c.logs=d.logs
 cases:c.cases=d.cases
theorem Alike.refl (c:GCluster):Alike c c:=⟨rfl,rfl,rfl,rfl⟩
theorem qxa (c:GCluster) (x:Int):(qw2 c x).values.length≤4:=by
 show (qct (qab c.cases x.toNat)).1.length≤4
 unfold qct
 cases ((qab c.cases x.toNat).begun&&(qc3 (qab c.cases x.toNat)&&(qbv (qab c.cases x.toNat) 0&&qbv (qab c.cases x.toNat) 1)))
 ·simp
 ·simp only [cond_true,List.length_take,Vector.length_toList]
  omega
theorem comeZ_acts {c:GCluster} {net:List ByteArray} {n:Nat} {f:GFrame} {s:ByteArray}:(qdh c net n f s).2.1.acts=c.acts∧(qdh c net n f s).2.1.begun=c.begun∧(qdh c net n f s).2.1.cases=c.cases:=by
 unfold qdh
 cases qab c.down n
 ·cases ((qa0 (qab c.nodes n) n f).2.2 != 0)
  ·cases decide (qab c.tear n>0)
   ·cases (qe4 (qab c.logs n) s != 0)<;>exact ⟨rfl,rfl,rfl⟩
   ·exact ⟨rfl,rfl,rfl⟩
  ·exact ⟨rfl,rfl,rfl⟩
 ·exact ⟨rfl,rfl,rfl⟩
theorem frm2_acts {c:GCluster} {net:List ByteArray} {k:Int} {f:GFrame} {s:ByteArray}:(frm2 c net k f s).2.1.acts=c.acts∧(frm2 c net k f s).1.values.length≤4:=by
 unfold frm2
 cases (k==4)
 ·cases (f.kind==1||f.kind==3)
  ·cases ((qbz (qab c.cases f.id.toNat) f.id f).2.2 != 0)
   ·exact ⟨rfl,qxa _ _⟩
   ·exact ⟨rfl,Nat.zero_le _⟩
  ·refine ⟨comeZ_acts.1,?_⟩
   show (bif (qdh c net f.node.toNat f s).1 != 0 then ql3 (qdh c net f.node.toNat f s).1 else okR f.id []).values.length≤4
   cases ((qdh c net f.node.toNat f s).1 != 0)<;>exact Nat.zero_le _
 ·exact ⟨rfl,Nat.zero_le _⟩
theorem qu3 {c:GCluster} {net:List ByteArray} {a:GAct} (h:c.acts<400):(qfq c net a).2.1.acts=c.acts+1:=by
 unfold qfq
 rw [qad (qae (by omega))]
 generalize hd:({ c with acts:=c.acts+1 }:GCluster)=d
 have hda:d.acts=c.acts+1:=by rw [← hd]
 rw [← hda]
 unfold doA
 cases (a.kind==1)
 ·rw [cond_false]
  cases (a.kind==2||(a.kind==3||a.kind==4))
  ·rw [cond_false]
   cases (a.kind==5)
   ·rw [cond_false]
    cases (a.kind==6||(a.kind==7||a.kind==8))
    ·rfl
    ·rw [cond_true]
     unfold qql
     cases ql9 a
     ·rfl
     ·rw [cond_true]
      cases (!(qab d.down a.n.toNat==(a.kind==8)))
      ·rw [cond_false]
       cases (a.kind==7)
       ·rw [cond_false]
        cases (a.kind==6)<;>rfl
       ·rfl
      ·rfl
   ·rw [cond_true]
    unfold q2p
    cases decide (0≤a.n∧a.n<d.begun)<;>rfl
  ·rw [cond_true]
   unfold ql7
   cases decide (0≤a.n∧a.n<net.length)
   ·rfl
   ·exact frm2_acts.1
 ·rw [cond_true]
  unfold qrm
  cases decide (d.begun≥32)
  ·rw [cond_false]
   cases ((qdb { id:=d.begun,ops:=a.ops }).2.2 != 0)<;>rfl
  ·rfl
theorem qyf : ∀ (l:List GAct) (c:GCluster) (net:List ByteArray),c.acts+l.length≤400→(goZ c net l).2.1.acts=c.acts+l.length
 | [],c,_,_=>by show c.acts=c.acts+((0:Nat):Int);omega
 | a::t,c,net,h=>by
  simp only [List.length_cons] at h
  have h1:=qu3 (c:=c) (net:=net) (a:=a) (by omega)
  have h2:=qyf t (qfq c net a).2.1 (qfq c net a).2.2 (by omega)
  show (goZ (qfq c net a).2.1 (qfq c net a).2.2 t).2.1.acts=_
  rw [h2,h1]
  simp only [List.length_cons]
  omega
theorem q2u {fu:Nat} (hfu:fu=70000) {l:List GAct} (hl:l.length≤17592186043904):qt8 fu l=some ((goZ newCl [] (l.take 150)).2.1,true,(goZ newCl [] (l.take 150)).2.2):=by
 have ha:qt7 fu=some true:=by rw [hfu];exact q6z
 unfold qt8
 rw [ha,qaa,qad (c := !true) rfl,q2r,qaa]
 exact qw8 (by omega) hl fu 150 0 newCl [] (by omega) (by omega) q2s
end Go.Proofs.Yteilffoclpgijaa
namespace Go.Proofs.Yteilffoclpgijaa
open Go.RowKit
open Rep (rep)
def Rb (P:Nat→Nat→Bool) (a b:Nat):Prop:=P a b=true→P b a=true∧a<b
theorem q4v {P:Nat→Nat→Bool} (hP:Pre P) (c:Nat):(quj P c).Pairwise (Rb P):=by
 have h:(quj P c).Pairwise (· < ·):=List.Pairwise.filter _ List.pairwise_lt_range
 refine h.imp_of_mem fun {a b} ha hb hab=>fun _=>⟨?_,hab⟩
 exact hP.trans _ _ _ (mem_ringO.1 hb).2.2 (mem_ringO.1 ha).2.1
theorem qu4 {P:Nat→Nat→Bool} {n:Nat} (hP:Pre P) (hn:n<32) : ∀ (k:Nat) (out:List Nat),OKO P n out→out.Pairwise (Rb P)→(qka P n k out).Pairwise (Rb P)
 | 0,out,_,hb=>hb
 | k+1,out,h,hb=>by
  unfold qka
  cases hc:qh4 P n out with
  | none=>exact hb
  | some c =>
   refine qu4 hP hn k _ (h.step hP hn hc) ?_
   obtain ⟨hc32,hcand,_⟩:=qew hc
   rw [candO_iff] at hcand
   refine List.pairwise_append.2 ⟨hb,q4v hP c,fun a ha b hb hab => ?_⟩
   exact absurd (h.dc b (h.dc a ha b hab) c (mem_ringO.1 hb).2.2) hcand.2.1
theorem q2v {P:Nat→Nat→Bool} {n:Nat} (hP:Pre P) (hn:n<32):(qkb P n).Pairwise (Rb P):=qu4 hP hn 32 [] OKO.nil .nil
structure Srt (s:GNode):Prop where
 clo : ∀ n:Nat,(n:Int)∈s.order → ∀ d,qa2 (qbk s) n d=true→(d:Int)∈s.order
 ord:s.order.Pairwise (fun a b=>Rb (qa2 (qbk s)) a.toNat b.toNat)
theorem q2w {E E':Nat→Nat→Prop} {S:Nat→Prop} (hS : ∀ a b,S a→E a b→S b) (hE : ∀ a b,S a→(E a b↔E' a b)) {n d:Nat} (hn:S n):Path E n d↔Path E' n d:=by
 constructor
 ·intro h
  have:Path E' n d∧S d:=by
   induction h with
   | refl=>exact ⟨.refl n,hn⟩
   | tail _ e ih=>exact ⟨.tail ih.1 ((hE _ _ ih.2).1 e),hS _ _ ih.2 e⟩
  exact this.1
 ·intro h
  have:Path E n d∧S d:=by
   induction h with
   | refl=>exact ⟨.refl n,hn⟩
   | tail _ e ih =>
    have e':=(hE _ _ ih.2).2 e
    exact ⟨.tail ih.1 e',hS _ _ ih.2 e'⟩
  exact this.1
theorem Srt.of {s t:GNode} (h:Srt s) (hg:GoodN s) (ho:t.order=s.order) (hent : ∀ k:Nat,k<32→(k:Int)∈s.order→eat t.entries k=eat s.entries k):Srt t:=by
 have hE : ∀ a b,((a:Nat):Int)∈s.order→(Edge (qbk s) a b↔Edge (qbk t) a b):=fun a b ha=>by
  unfold Edge
  by_cases h32:a<32
  ·rw [qde h32,qde h32,qce h32,qce h32,hent a h32 ha]
  ·exact ⟨fun e=>absurd e.1 h32,fun e=>absurd e.1 h32⟩
 have hS : ∀ a b,((a:Nat):Int)∈s.order→Edge (qbk s) a b→((b:Nat):Int)∈s.order:=fun a b ha e=>h.clo a ha b (pathB_iff.2 (.one e))
 have hp : ∀ n d,((n:Nat):Int)∈s.order→qa2 (qbk t) n d=qa2 (qbk s) n d:=fun n d hn=>by
  rw [Bool.eq_iff_iff,pathB_iff,pathB_iff]
  exact (q2w (S:=fun k=>((k:Nat):Int)∈s.order) hS hE hn).symm
 refine ⟨fun n hn d hd => ?_,?_⟩
 ·rw [ho] at hn ⊢
  rw [hp n d hn] at hd
  exact h.clo n hn d hd
 ·rw [ho]
  refine h.ord.imp_of_mem fun {a b} ha hb hab => ?_
  have ha0:=(hg.inr a ha).1
  have hb0:=(hg.inr b hb).1
  have ha':((a.toNat:Nat):Int)∈s.order:=by rw [Int.toNat_of_nonneg ha0];exact ha
  have hb':((b.toNat:Nat):Int)∈s.order:=by rw [Int.toNat_of_nonneg hb0];exact hb
  unfold Rb at *
  rw [hp _ _ ha',hp _ _ hb']
  exact hab
theorem Ex.graph {s t:GNode} (h:Ex s t):qbk t=qbk s:=by
 have e1:(fun k:Fin 32=>decide ((eat t.entries k.val).state≥2))=fun k:Fin 32=>decide ((eat s.entries k.val).state≥2):=funext fun k=>by
  rcases h.ent k.val k.isLt with e | ⟨e2,a,b,e⟩
  ·rw [e]
  ·rw [e,e2]
   rfl
 have e2:(fun k:Fin 32=>(eat t.entries k.val).deps)=fun k:Fin 32=>(eat s.entries k.val).deps:=funext fun k=>by
  rcases h.ent k.val k.isLt with e | ⟨e2,a,b,e⟩
  ·rw [e]
  ·rw [e]
   rfl
 unfold qbk
 rw [e1,e2]
def q2x (s:GNode) (l:List Nat):List Nat:=l.filter fun m=>(eat s.entries m).state==2
theorem qu5 (sh:Int) : ∀ (l:List Nat) (s:GNode),l.Nodup→(∀ m∈l,m<32)→(q0c sh s l).order=s.order++qcs (q2x s l)
 | [],s,_,_=>by simp [q0c,q2x,qcs]
 | m::t,s,hn,hl=>by
  have hm:=hl m List.mem_cons_self
  obtain ⟨hnm,hnt⟩:=List.nodup_cons.1 hn
  have ih:=qu5 sh t (qkz sh s m) hnt fun x hx=>hl x (List.mem_cons_of_mem _ hx)
  show (q0c sh (qkz sh s m) t).order=_
  rw [ih]
  unfold qkz q2x
  cases h2:((eat s.entries m).state==2)
  ·rw [cond_false,List.filter_cons_of_neg (by simp [h2])]
  ·rw [cond_true,List.filter_cons_of_pos (by simp [h2])]
   have hf:t.filter (fun x=>(eat (q0b s m sh).entries x).state==2)=t.filter fun x=>(eat s.entries x).state==2:=by
    refine List.filter_congr fun x hx => ?_
    have hxm:m≠x:=fun e=>hnm (by rw [e];exact hx)
    show ((eat (s.entries.setIfInBounds m _) x).state==2)=_
    rw [qbd hm,if_neg hxm]
   rw [hf]
   show (s.order++[(m:Int)])++_=_
   rw [List.append_assoc]
   rfl
theorem Srt.turn {s:GNode} (hg:GoodN s) (h:Srt s) {n:Nat} (hn:n<32) (sh:Int):Srt (qil (qbk s) sh s n):=by
 unfold qil
 cases h2:((eat s.entries n).state==2)
 ·exact h
 rw [cond_true]
 by_cases hr:qeg (qbk s) (n:Int)=true
 ·have hl:qwx (qbk s) n=qkb (qa2 (qbk s)) n:=by rw [qwx,if_pos hr]
  have hP:=qdm (qbk s)
  have hok:=qpi hP hn
  have hkn:=qnf hn hr
  rw [hl]
  have ho:=qu5 sh (qkb (qa2 (qbk s)) n) s hok.nodup hok.lt
  have hgr:=(Ex.run sh (qkb (qa2 (qbk s)) n) s hok.lt).graph
  have hmem : ∀ k:Nat,(k:Int)∈qcs (q2x s (qkb (qa2 (qbk s)) n))↔k∈qkb (qa2 (qbk s)) n∧(eat s.entries k).state=2:=fun k=>by
   rw [qpr,q2x,List.mem_filter]
   simp
  refine ⟨fun k hk d hd => ?_,?_⟩
  ·rw [hgr] at hd
   rw [ho] at hk ⊢
   rcases List.mem_append.1 hk with hk | hk
   ·exact List.mem_append_left _ (h.clo k hk d hd)
   ·have hk:=((hmem k).1 hk).1
    have hnk:=(qmr hP hn k).1 hk
    have hnd:=hP.trans _ _ _ hnk hd
    have hd32:=hP.lt n d hn hnd
    have hb:=hkn d hnd
    rw [qde hd32,decide_eq_true_eq] at hb
    have hst:=hg.state hd32
    by_cases h3:(eat s.entries d).state=3
    ·exact List.mem_append_left _ ((hg.done hd32).1 h3)
    ·exact List.mem_append_right _ ((hmem d).2 ⟨(qmr hP hn d).2 hnd,by omega⟩)
  ·rw [hgr,ho]
   refine List.pairwise_append.2 ⟨h.ord,?_,fun a ha b hb => ?_⟩
   ·unfold qcs
    rw [List.pairwise_map]
    simp only [Int.toNat_natCast]
    exact (q2v hP hn).filter _
   ·obtain ⟨m,_,rfl⟩:=List.mem_map.1 hb
    have hb2:=((hmem m).1 hb).2
    have hb32:=hok.lt m ((hmem m).1 hb).1
    have ha0:=(hg.inr a ha).1
    intro hab
    rw [Int.toNat_natCast] at hab
    have hin:=h.clo a.toNat (by rw [Int.toNat_of_nonneg ha0];exact ha) m hab
    have:=(hg.done hb32).2 hin
    omega
 ·have hl:qwx (qbk s) n=[]:=by rw [qwx,if_neg hr]
  rw [hl]
  exact h
theorem Srt.turns (sh:Int) {g:GGraph} (l:List Nat) : ∀ {s:GNode},GoodN s→Srt s→qbk s=g→(∀ m∈l,m<32)→Srt (l.foldl (qil g sh) s):=by
 induction l with
 | nil=>intro s _ h _ _;exact h
 | cons m t ih =>
  intro s hg h he hl
  have hm:=hl m List.mem_cons_self
  rw [List.foldl_cons]
  refine ih (hg.turn hm g sh) ?_ ((Ex.turn hm g sh).graph.trans he) fun x hx=>hl x (List.mem_cons_of_mem _ hx)
  rw [← he]
  exact h.turn hg hm sh
theorem Srt.exec {s:GNode} (hg:GoodN s) (h:Srt s) (sh:Int):Srt (qqh s sh):=Srt.turns sh _ hg h rfl fun m hm=>List.mem_range.1 hm
theorem qyg {s:GNode} (hg:GoodN s) {k:Nat} (hk:k<32) (hin:(k:Int)∈s.order) {n:Nat} (hn:(eat s.entries n).state≠3):n≠k:=by
 rintro rfl
 exact hn ((hg.done hk).2 hin)
theorem Srt.take {s:GNode} (h:Srt s) {who:Int} {f:GFrame}:Srt (qa0 s who f).1:=by
 by_cases h0:(qa0 s who f).2.2=0
 ·obtain ⟨hs,hw,hn,hz,hk⟩:=qjz h0
  obtain ⟨_,_,hf⟩:=qa6 hz
  have hid:f.id.toNat<32:=by omega
  rw [qgr hs hw hn hz]
  rcases hk with ⟨h1,ht⟩ | h3
  ·rw [qfb h1 ht]
   show Srt (qrj s f (ofZ who))
   unfold qrj
   cases hst:((eat s.entries f.id.toNat).state==0)
   ·exact h
   ·have hst:(eat s.entries f.id.toNat).state=0:=by simpa using hst
    refine h.of hs rfl fun k hk hin => ?_
    show eat (s.entries.setIfInBounds _ _) k=_
    rw [qbd hid,if_neg (qyg hs hk hin (by omega))]
  ·rw [qco h3]
   show Srt (qaw s f (ofZ who))
   unfold qaw
   by_cases h2:(eat s.entries f.id.toNat).state<2
   ·rw [qaj (qaf h2)]
    refine Srt.exec (hs.comm hz h3 h2 _) (h.of hs rfl fun k hk hin => ?_) _
    show eat (s.entries.setIfInBounds _ _) k=_
    rw [qbd hid,if_neg (qyg hs hk hin (by omega))]
   ·rw [qad (qae h2)];exact h
 ·rw [(ql1 h0).1];exact h
theorem q4w:Srt zeroN:=⟨fun n hn _ _=>absurd (show (n:Int)∈([]:List Int) from hn) List.not_mem_nil,(List.Pairwise.nil:List.Pairwise _ ([]:List Int))⟩
end Go.Proofs.Yteilffoclpgijaa
namespace Go.Proofs.Yteilffoclpgijaa
open Go.RowKit
open Rep (rep)
noncomputable def dur (c:GCluster) (n:Nat):GNode:=(qbc n (qaq (qab c.logs n).data.toList).1 zeroN).1
theorem qcf (c:GCluster) (n:Nat):GoodN (dur c n):=qgs _ qfa
structure NetE (c:GCluster) (f:GFrame) (e:GEntry):Prop where
 beg:(qab c.cases f.id.toNat).begun=true
 ask:f.kind=1→f.ops=(qab c.cases f.id.toNat).ops∧qac f.ops (ofZ f.node)=true
 told:f.kind=2→e.state≠0∧f.deps=e.first
 commit:f.kind=3→(qab c.cases f.id.toNat).fixed=true∧f.ops=(qab c.cases f.id.toNat).ops∧f.deps=(qab c.cases f.id.toNat).deps
 known:f.kind=4→2≤e.state
 done:f.kind=5→e.state=3∧f.at_=e.at_∧f.vals=e.values
structure NetF (c:GCluster) (f:GFrame):Prop where
 good:qak f=0
 ent:NetE c f (eat (dur c f.node.toNat).entries f.id.toNat)
structure NodeP (c:GCluster) (n:Nat) (s:GNode):Prop where
 beg : ∀ i,i<32→(eat s.entries i).state≠0→(qab c.cases i).begun=true∧(eat s.entries i).ops=(qab c.cases i).ops
 fix : ∀ i,i<32→2≤(eat s.entries i).state→(qab c.cases i).fixed=true∧(eat s.entries i).deps=(qab c.cases i).deps
 way : ∀ i j,i<32→j<32→i≠j→(eat s.entries i).state≠0→(eat s.entries j).state≠0→qa3 (eat s.entries i).ops (eat s.entries j).ops (ofZ n)=true→((j:Nat):Int)∈(eat s.entries i).first∨((i:Nat):Int)∈(eat s.entries j).first
 heard : ∀ i,i<32→(eat s.entries i).state≠0 → ∀ d∈(eat s.entries i).first,∃ j:Nat,d=j∧j<32∧j≠i∧(eat s.entries j).state≠0
 sorted:Srt s
theorem qz1 (c:GCluster) (n:Nat):NodeP c n zeroN:=by
 have h0 : ∀ i,(eat zeroN.entries i).state=0:=fun i=>by
  show (eat (Zr.zd:Vector GEntry 32) i).state=0
  rw [qsr]
  rfl
 exact ⟨fun i _ h=>absurd (h0 i) h,fun i _ h=>by rw [h0 i] at h;omega,fun i j _ _ _ h=>absurd (h0 i) h,fun i _ h=>absurd (h0 i) h,q4w⟩
theorem Ex.same {s t:GNode} (hx:Ex s t) {k:Nat} (hk:k<32):(eat t.entries k).ops=(eat s.entries k).ops∧(eat t.entries k).first=(eat s.entries k).first∧(eat t.entries k).deps=(eat s.entries k).deps∧((eat t.entries k).state≠0↔(eat s.entries k).state≠0)∧(2≤(eat t.entries k).state↔2≤(eat s.entries k).state):=by
 rcases hx.ent k hk with e | ⟨e2,a,b,e⟩
 ·rw [e]
  exact ⟨rfl,rfl,rfl,Iff.rfl,Iff.rfl⟩
 ·rw [e]
  refine ⟨rfl,rfl,rfl,?_,?_⟩
  ·show (3:Int)≠0↔_
   rw [e2]
   decide
  ·show 2≤(3:Int)↔_
   rw [e2]
   decide
structure NodeQ (c:GCluster) (n:Nat) (s:GNode):Prop where
 beg : ∀ i,i<32→(eat s.entries i).state≠0→(qab c.cases i).begun=true∧(eat s.entries i).ops=(qab c.cases i).ops
 fix : ∀ i,i<32→2≤(eat s.entries i).state→(qab c.cases i).fixed=true∧(eat s.entries i).deps=(qab c.cases i).deps
 way : ∀ i j,i<32→j<32→i≠j→(eat s.entries i).state≠0→(eat s.entries j).state≠0→qa3 (eat s.entries i).ops (eat s.entries j).ops (ofZ n)=true→((j:Nat):Int)∈(eat s.entries i).first∨((i:Nat):Int)∈(eat s.entries j).first
 heard : ∀ i,i<32→(eat s.entries i).state≠0 → ∀ d∈(eat s.entries i).first,∃ j:Nat,d=j∧j<32∧j≠i∧(eat s.entries j).state≠0
theorem NodeP.q {c:GCluster} {n:Nat} {s:GNode} (h:NodeP c n s):NodeQ c n s:=⟨h.beg,h.fix,h.way,h.heard⟩
theorem NodeQ.p {c:GCluster} {n:Nat} {s:GNode} (h:NodeQ c n s) (hs:Srt s):NodeP c n s:=⟨h.beg,h.fix,h.way,h.heard,hs⟩
theorem NodeQ.ex {c:GCluster} {n:Nat} {s t:GNode} (h:NodeQ c n s) (hx:Ex s t):NodeQ c n t:=by
 refine ⟨fun i hi hs => ?_,fun i hi hs => ?_,fun i j hi hj hij h1 h2 hc => ?_,fun i hi hs d hd => ?_⟩
 ·obtain ⟨e1,_,_,e4,_⟩:=hx.same hi
  rw [e1]
  exact h.beg i hi (e4.1 hs)
 ·obtain ⟨_,_,e3,_,e5⟩:=hx.same hi
  rw [e3]
  exact h.fix i hi (e5.1 hs)
 ·obtain ⟨e1,e2,_,e4,_⟩:=hx.same hi
  obtain ⟨f1,f2,_,f4,_⟩:=hx.same hj
  rw [e1,f1] at hc
  rw [e2,f2]
  exact h.way i j hi hj hij (e4.1 h1) (f4.1 h2) hc
 ·obtain ⟨_,e2,_,e4,_⟩:=hx.same hi
  rw [e2] at hd
  obtain ⟨j,hj,hj32,hne,hst⟩:=h.heard i hi (e4.1 hs) d hd
  exact ⟨j,hj,hj32,hne,(hx.same hj32).2.2.2.1.2 hst⟩
theorem NodeQ.set {c:GCluster} {n:Nat} {s t:GNode} (h:NodeQ c n s) {i0:Nat} (hi0:i0<32) {e:GEntry} (ht:t.entries=s.entries.setIfInBounds i0 e) (hb:(qab c.cases i0).begun=true) (ho:e.ops=(qab c.cases i0).ops) (h1:e.state≠0)
  (hf:2≤e.state→(qab c.cases i0).fixed=true∧e.deps=(qab c.cases i0).deps) (hfi:((eat s.entries i0).state≠0∧e.first=(eat s.entries i0).first)∨((eat s.entries i0).state=0∧e.first=qgh s i0 e.ops (ofZ n))):NodeQ c n t:=by
 have hat : ∀ k,eat t.entries k=if i0=k then e else eat s.entries k:=fun k=>by rw [ht,qbd hi0]
 have hkeep : ∀ k,k<32→(eat s.entries k).state≠0→(eat t.entries k).state≠0:=fun k _ hs=>by
  rw [hat]
  by_cases e':i0=k
  ·rw [if_pos e'];exact h1
  ·rw [if_neg e'];exact hs
 have hnew : ∀ j,j<32→i0≠j→(eat s.entries j).state≠0→qa3 e.ops (eat s.entries j).ops (ofZ n)=true→((j:Nat):Int)∈e.first∨((i0:Nat):Int)∈(eat s.entries j).first:=fun j hj hij h2 hc=>by
  rcases hfi with ⟨o1,o2⟩ | ⟨o1,o2⟩
  ·rw [o2]
   have:=(h.beg i0 hi0 o1).2
   rw [ho,← this] at hc
   exact h.way i0 j hi0 hj hij o1 h2 hc
  ·refine .inl ?_
   rw [o2,qgh,qpr,aheadL_mem]
   refine ⟨hj,?_⟩
   unfold qqg
   rw [qk8,hc]
   simp only [Bool.and_true,Bool.and_eq_true,bne_iff_ne,ne_eq]
   exact ⟨fun e'=>hij (by omega),h2⟩
 refine ⟨fun i hi hs => ?_,fun i hi hs => ?_,fun i j hi hj hij hs1 hs2 hc => ?_,fun i hi hs d hd => ?_⟩
 ·rw [hat] at hs ⊢
  by_cases e':i0=i
  ·subst e';rw [if_pos rfl];exact ⟨hb,ho⟩
  ·rw [if_neg e'] at hs ⊢;exact h.beg i hi hs
 ·rw [hat] at hs ⊢
  by_cases e':i0=i
  ·subst e';rw [if_pos rfl] at hs ⊢;exact hf hs
  ·rw [if_neg e'] at hs ⊢;exact h.fix i hi hs
 ·rw [hat] at hs1 hc ⊢
  rw [hat j] at hs2 hc ⊢
  by_cases e1:i0=i
  ·subst e1
   rw [if_pos rfl] at hc ⊢
   rw [if_neg hij] at hs2 hc ⊢
   exact hnew j hj hij hs2 hc
  ·rw [if_neg e1] at hs1 hc ⊢
   by_cases e2:i0=j
   ·subst e2
    rw [if_pos rfl] at hc ⊢
    rw [qk8] at hc
    exact (hnew i hi (Ne.symm hij) hs1 hc).symm
   ·rw [if_neg e2] at hs2 hc ⊢
    exact h.way i j hi hj hij hs1 hs2 hc
 ·have hold:(eat s.entries i).state≠0→d∈(eat s.entries i).first → ∃ j:Nat,d=j∧j<32∧j≠i∧(eat t.entries j).state≠0:=fun h2 h3=>by
   obtain ⟨j,hj,hj32,hne,hst⟩:=h.heard i hi h2 d h3
   exact ⟨j,hj,hj32,hne,hkeep j hj32 hst⟩
  rw [hat] at hs hd
  by_cases e':i0=i
  ·subst e'
   rw [if_pos rfl] at hd
   rcases hfi with ⟨o1,o2⟩ | ⟨o1,o2⟩
   ·rw [o2] at hd;exact hold o1 hd
   ·rw [o2,qgh] at hd
    obtain ⟨j,hj,rfl⟩:=List.mem_map.1 hd
    obtain ⟨hj32,hw⟩:=aheadL_mem.1 hj
    unfold qqg at hw
    simp only [Bool.and_eq_true,bne_iff_ne,ne_eq] at hw
    exact ⟨j,rfl,hj32,fun e'=>hw.1 (by omega),hkeep j hj32 hw.2.1⟩
  ·rw [if_neg e'] at hs hd
   exact hold hs hd
theorem NodeP.take {c:GCluster} {n:Nat} (hn6:n<6) {s:GNode} (h:NodeP c n s) (hg:GoodN s) {f:GFrame} {e:GEntry} (hf:NetE c f e) (hz:qak f=0) (hn:f.node=n) (hk:f.kind=1∨f.kind=3) :
  (qa0 s n f).2.2=0∧NodeP c n (qa0 s n f).1 ∧ ∀ g∈(qa0 s n f).2.1,g.node=n∧g.id=f.id∧NetE c g (eat (qa0 s n f).1.entries f.id.toNat):=by
 obtain ⟨_,_,hid⟩:=qa6 hz
 have hi:f.id.toNat<32:=by omega
 have hidn:((f.id.toNat:Nat):Int)=f.id:=by omega
 have hsrt:=h.sorted.take (who:=(n:Int)) (f:=f)
 have hof:=qgr hg (who:=(n:Int)) (by omega) hn hz
 rw [hof] at hsrt ⊢
 rcases hk with h1 | h3
 ·obtain ⟨ho,ht⟩:=hf.ask h1
  rw [hn] at ht
  rw [qfb h1 ht] at hsrt ⊢
  have hq:NodeQ c n (qrj s f (ofZ n)):=by
   unfold qrj
   cases h0:((eat s.entries f.id.toNat).state==0)
   ·exact h.q
   ·have h0:(eat s.entries f.id.toNat).state=0:=by simpa using h0
    refine h.q.set hi (e:=qri s f (ofZ n)) rfl hf.beg ho (by show (1:Int)≠0;decide) (fun h2 => ?_) (.inr ⟨h0,?_⟩)
    ·have h2:2≤(1:Int):=h2
     omega
    ·show qgh s f.id f.ops (ofZ n)=qgh s f.id.toNat f.ops (ofZ n)
     rw [hidn]
  have hst:(eat (qrj s f (ofZ n)).entries f.id.toNat).state≠0:=by
   unfold qrj
   cases h0:((eat s.entries f.id.toNat).state==0)
   ·simpa using h0
   ·show (eat (s.entries.setIfInBounds _ _) _).state≠0
    rw [qbd hi,if_pos rfl]
    show (1:Int)≠0
    decide
  refine ⟨rfl,hq.p hsrt,fun g hgm => ?_⟩
  rw [List.mem_singleton.1 hgm]
  exact ⟨rfl,rfl,hf.beg,fun h=>absurd (show (2:Int)=1 from h) (by decide),fun _=>⟨hst,rfl⟩,fun h=>absurd (show (2:Int)=3 from h) (by decide),fun h=>absurd (show (2:Int)=4 from h) (by decide),fun h=>absurd (show (2:Int)=5 from h) (by decide)⟩
 ·obtain ⟨hfx,ho,hd⟩:=hf.commit h3
  rw [qco h3] at hsrt ⊢
  have hq:NodeQ c n (qaw s f (ofZ n)):=by
   unfold qaw
   by_cases h2:(eat s.entries f.id.toNat).state<2
   ·rw [qaj (qaf h2)]
    refine NodeQ.ex (h.q.set hi (t:=qnv s f (ofZ n)) (e:=qzt s f (ofZ n)) rfl hf.beg ho (by show (2:Int)≠0;decide) (fun _=>⟨hfx,hd⟩) ?_) (Ex.exec _ _)
    show _∧qib s f (ofZ n)=_∨_∧qib s f (ofZ n)=qgh s f.id.toNat f.ops (ofZ n)
    unfold qib
    rw [hidn]
    cases h0:((eat s.entries f.id.toNat).state==0)
    ·exact .inl ⟨by simpa using h0,rfl⟩
    ·exact .inr ⟨by simpa using h0,rfl⟩
   ·rw [qad (qae h2)]
    exact h.q
  have hst:=ql2 (s:=s) hid (ofZ n)
  refine ⟨rfl,hq.p hsrt,fun g hgm => ?_⟩
  have hkn:NetE c (qjh n f.id) (eat (qaw s f (ofZ n)).entries f.id.toNat) :=
   ⟨hf.beg,fun h=>absurd (show (4:Int)=1 from h) (by decide),fun h=>absurd (show (4:Int)=2 from h) (by decide),fun h=>absurd (show (4:Int)=3 from h) (by decide),fun _=>hst,fun h=>absurd (show (4:Int)=5 from h) (by decide)⟩
  have hgm:g∈qc0 (ofZ n) n f.id (qaw s f (ofZ n)):=hgm
  unfold qc0 at hgm
  cases hb:((eat (qaw s f (ofZ n)).entries f.id.toNat).state==3&&qac (eat (qaw s f (ofZ n)).entries f.id.toNat).ops (ofZ n))
  ·rw [hb] at hgm
   rw [List.mem_singleton.1 (show g∈[qjh n f.id] from hgm)]
   exact ⟨rfl,rfl,hkn⟩
  ·rw [hb] at hgm
   simp only [Bool.and_eq_true,beq_iff_eq] at hb
   rcases List.mem_cons.1 (show g∈[qjh n f.id,qwy n f.id (eat (qaw s f (ofZ n)).entries f.id.toNat)] from hgm) with hgm | hgm
   ·rw [hgm];exact ⟨rfl,rfl,hkn⟩
   ·rw [List.mem_singleton.1 hgm]
    exact ⟨rfl,rfl,hf.beg,fun h=>absurd (show (5:Int)=1 from h) (by decide),fun h=>absurd (show (5:Int)=2 from h) (by decide),fun h=>absurd (show (5:Int)=3 from h) (by decide),fun h=>absurd (show (5:Int)=4 from h) (by decide),fun _=>⟨hb.1,rfl,rfl⟩⟩
end Go.Proofs.Yteilffoclpgijaa
namespace Go.Proofs.Yteilffoclpgijaa
open Go.RowKit
open Rep (rep)
abbrev qs0 (c:GCluster) (n:Nat):List UInt8:=(qab c.logs n).data.toList
structure CaseP (c:GCluster) (i:Nat):Prop where
 told : ∀ k,k<6→qam (qab c.cases i).told k=true→(eat (dur c k).entries i).state≠0 ∧ ∀ d∈(eat (dur c k).entries i).first,d∈(qab c.cases i).deps
 heard : ∀ d∈(qab c.cases i).deps,∃ j:Nat,d=j∧j<32∧j≠i∧(qab c.cases j).begun=true
 fix:(qab c.cases i).fixed=true→qcb (qab c.cases i)=true
 done : ∀ k,qam (qab c.cases i).has k=true→(qab c.cases i).fixed=true ∧ ∃ (n m:Nat) (o:GOp),n<6∧(eat (dur c n).entries i).state=3∧(eat (dur c n).entries i).at_[m]? = some ((k:Nat):Int)∧(eat (dur c n).entries i).values[m]? = some ((qab c.cases i).values[k]?.getD 0)∧(qab c.cases i).ops[k]? = some o∧qas o.key=ofZ n
structure PInv (c:GCluster) (net:List ByteArray) (b:Nat):Prop where
 inv:CInv c net
 cnt : ∀ i,i<32→(qab c.cases i).begun=decide ((i:Int)<c.begun)
 rep : ∀ n:Nat,n<6→(qbc n (qaq (qs0 c n)).1 zeroN).2=0
 up : ∀ n,n<6→qab c.down n=false→qab c.nodes n=dur c n∧(qaq (qs0 c n)).2=(qab c.logs n).size
 len : ∀ n,n<6→(qab c.logs n).size≤b
 net : ∀ s∈net,∃ f,s=(qef f).1∧NetF c f
 node : ∀ n,n<6→NodeP c n (dur c n)
 cas : ∀ i,i<32→(qab c.cases i).begun=true→CaseP c i
structure Grow (c d:GCluster):Prop where
 cas : ∀ i,i<32→(qab c.cases i).begun=true→(qab d.cases i).begun=true∧(qab d.cases i).ops=(qab c.cases i).ops∧((qab c.cases i).fixed=true→(qab d.cases i).fixed=true∧(qab d.cases i).deps=(qab c.cases i).deps)
 durs : ∀ n,n<6→KeepN (dur c n) (dur d n)
theorem Grow.of_cases {c d:GCluster} (hc:d.cases=c.cases) (hd : ∀ n,n<6→KeepN (dur c n) (dur d n)):Grow c d :=
 ⟨fun i _ hb=>by rw [hc];exact ⟨hb,rfl,fun h=>⟨h,rfl⟩⟩,hd⟩
theorem Grow.refl (c:GCluster):Grow c c := .of_cases rfl fun _ _ => .refl _
theorem Kp.ne {x y:GEntry} (h:Kp x y) (h0:0≤x.state) (hx:x.state≠0):y.state≠0:=by have:=h.state;omega
theorem NetE.grow {c d:GCluster} (hg:Grow c d) {f:GFrame} {x y:GEntry} (hid:f.id.toNat<32) (h0:0≤x.state) (hk:Kp x y) (h:NetE c f x):NetE d f y:=by
 obtain ⟨g1,g2,g3⟩:=hg.cas _ hid h.beg
 refine ⟨g1,fun hh => ?_,fun hh => ?_,fun hh => ?_,fun hh => ?_,fun hh => ?_⟩
 ·rw [g2];exact h.ask hh
 ·obtain ⟨a,b⟩:=h.told hh
  exact ⟨hk.ne h0 a,b.trans (hk.first a)⟩
 ·obtain ⟨a,b,e⟩:=h.commit hh
  obtain ⟨g4,g5⟩:=g3 a
  rw [g2,g5]
  exact ⟨g4,b,e⟩
 ·exact Int.le_trans (h.known hh) hk.state
 ·obtain ⟨a,b⟩:=h.done hh
  rw [← hk.done a]
  exact ⟨a,b⟩
theorem NetF.grow {c d:GCluster} (hg:Grow c d) {f:GFrame} (h:NetF c f):NetF d f:=by
 obtain ⟨_,hn,hid⟩:=qa6 h.good
 exact ⟨h.good,h.ent.grow hg (by omega) ((qcf c f.node.toNat).state (by omega)).1 ((hg.durs _ (by omega)).ent _ (by omega))⟩
theorem NodeP.grow {c d:GCluster} (hg:Grow c d) {n:Nat} {s:GNode} (h:NodeP c n s):NodeP d n s:=by
 refine ⟨fun i hi hs => ?_,fun i hi hs => ?_,h.way,h.heard,h.sorted⟩
 ·obtain ⟨a,b⟩:=h.beg i hi hs
  obtain ⟨g1,g2,_⟩:=hg.cas i hi a
  rw [g2]
  exact ⟨g1,b⟩
 ·obtain ⟨a,b⟩:=h.fix i hi hs
  obtain ⟨g1,g2,g3⟩:=hg.cas i hi (h.beg i hi (by omega)).1
  obtain ⟨g4,g5⟩:=g3 a
  rw [g5]
  exact ⟨g4,b⟩
theorem CaseP.grow {c d:GCluster} (hg:Grow c d) {i:Nat} (hi:i<32) (he:qab d.cases i=qab c.cases i) (h:CaseP c i):CaseP d i:=by
 refine ⟨fun k hk ht => ?_,fun x hx => ?_,fun hf => ?_,fun k hk => ?_⟩
 ·rw [he] at ht ⊢
  obtain ⟨a,b⟩:=h.told k hk ht
  have hkp:=(hg.durs k hk).ent i hi
  rw [← hkp.first a]
  exact ⟨hkp.ne ((qcf c k).state hi).1 a,b⟩
 ·rw [he] at hx
  obtain ⟨j,h1,h2,h3,h4⟩:=h.heard x hx
  exact ⟨j,h1,h2,h3,(hg.cas j h2 h4).1⟩
 ·rw [he] at hf ⊢
  exact h.fix hf
 ·rw [he] at hk ⊢
  obtain ⟨a,n,m,o,h1,h2,h3⟩:=h.done k hk
  have hkp:=(hg.durs n h1).ent i hi
  rw [hkp.done h2] at h3
  have h2:=(congrArg GEntry.state (hkp.done h2)).symm.trans h2
  exact ⟨a,n,m,o,h1,h2,h3⟩
theorem qu6 : ∀ (l:List GFrame) (net:List ByteArray) (s:ByteArray),s∈qgj net l→s∈net ∨ ∃ f∈l,qak f=0∧s=(qef f).1
 | [],net,s,h => .inl h
 | f::t,net,s,h=>by
  rw [qgj] at h
  rcases qu6 t _ s h with h | ⟨g,hg,hz,e⟩
  ·cases hb:(qak f==0&&decide (net.length<60))
   ·rw [hb] at h;exact .inl h
   ·rw [hb,cond_true] at h
    simp only [Bool.and_eq_true,beq_iff_eq] at hb
    rcases List.mem_append.1 h with h | h
    ·exact .inl h
    ·exact .inr ⟨f,List.mem_cons_self,hb.1,List.mem_singleton.1 h⟩
  ·exact .inr ⟨g,List.mem_cons_of_mem _ hg,hz,e⟩
theorem PInv.send {c:GCluster} {net:List ByteArray} {b:Nat} (h:PInv c net b) (l:List GFrame) (hl : ∀ f∈l,qak f=0→NetF c f):PInv c (qgj net l) b:=by
 refine ⟨h.inv.sent l,h.cnt,h.rep,h.up,h.len,fun s hs => ?_,h.node,h.cas⟩
 rcases qu6 l net s hs with hs | ⟨f,hf,hz,e⟩
 ·exact h.net s hs
 ·exact ⟨f,e,hl f hf hz⟩
theorem PInv.cut {c:GCluster} {net net':List ByteArray} {b:Nat} (h:PInv c net b) (hs : ∀ s∈net',s∈net) (hl:net'.length≤net.length):PInv c net' b :=
 ⟨h.inv.cut hs hl,h.cnt,h.rep,h.up,h.len,fun s hm=>h.net s (hs s hm),h.node,h.cas⟩
theorem PInv.mono {c:GCluster} {net:List ByteArray} {b b':Nat} (h:PInv c net b) (hb:b≤b'):PInv c net b' :=
 ⟨h.inv,h.cnt,h.rep,h.up,fun n hn=>Nat.le_trans (h.len n hn) hb,h.net,h.node,h.cas⟩
theorem qrs {c:GCluster} {i:Nat} (hi:i<32) (hb:(qab c.cases i).begun=true) : ∀ (m k:Nat),m+k=6 → ∀ f∈qby (qab c.cases i) i m k,qak f=0→NetF c f
 | 0,k,_,f,hf,_=>by cases hf
 | m+1,k,hk,f,hf,hz=>by
  rw [qby] at hf
  rcases List.mem_append.1 hf with hf | hf
  ·have hi':((i:Nat):Int).toNat=i:=rfl
   unfold qdv at hf
   cases hfx:(qab c.cases i).fixed
   ·rw [hfx,cond_false] at hf
    cases ht:(qac (qab c.cases i).ops (ofZ k) && !qam (qab c.cases i).told k)
    ·rw [ht] at hf;cases hf
    ·rw [ht,cond_true] at hf
     simp only [Bool.and_eq_true] at ht
     have e:=List.mem_singleton.1 hf
     subst e
     exact ⟨hz,hb,fun _=>⟨rfl,ht.1⟩,fun h=>absurd (show (1:Int)=2 from h) (by decide),fun h=>absurd (show (1:Int)=3 from h) (by decide),fun h=>absurd (show (1:Int)=4 from h) (by decide),fun h=>absurd (show (1:Int)=5 from h) (by decide)⟩
   ·rw [hfx,cond_true] at hf
    cases ht:(!qam (qab c.cases i).known k || !qbv (qab c.cases i) (ofZ k))
    ·rw [ht] at hf;cases hf
    ·rw [ht,cond_true] at hf
     have e:=List.mem_singleton.1 hf
     subst e
     exact ⟨hz,hb,fun h=>absurd (show (3:Int)=1 from h) (by decide),fun h=>absurd (show (3:Int)=2 from h) (by decide),fun _=>⟨hfx,rfl,rfl⟩,fun h=>absurd (show (3:Int)=4 from h) (by decide),fun h=>absurd (show (3:Int)=5 from h) (by decide)⟩
  ·exact qrs hi hb m (k+1) (by omega) f hf hz
theorem qmy {c:GCluster} {i:Nat} (hi:i<32) (hb:(qab c.cases i).begun=true) : ∀ f∈qe9 (qab c.cases i) i,qak f=0→NetF c f:=fun f hf hz=>by
 unfold qe9 at hf
 cases hs:qsk (qab c.cases i) i
 ·rw [hs] at hf;cases hf
 ·rw [hs,cond_true] at hf
  exact qrs hi hb 6 0 rfl f hf hz
theorem PInv.relog {c d:GCluster} {net:List ByteArray} {b b' n:Nat} (h:PInv c net b) (hn:n<6) (hinv:CInv d net) (hcas:d.cases=c.cases) (hbeg:d.begun=c.begun) (hlogs : ∀ k:Nat,k<6→k≠n→qab d.logs k=qab c.logs k)
  (hd:dur d n=dur c n ∨ ∃ f,NetF c f∧f.node=n∧(f.kind=1∨f.kind=3)∧dur d n=(qa0 (dur c n) n f).1) (hrep:(qbc n (qaq (qs0 d n)).1 zeroN).2=0) (hlen : ∀ k:Nat,k<6→(qab d.logs k).size≤b')
  (hup : ∀ k:Nat,k<6→qab d.down k=false→qab d.nodes k=dur d k∧(qaq (qs0 d k)).2=(qab d.logs k).size):Grow c d∧PInv d net b':=by
 have hdur : ∀ k,k<6→k≠n→dur d k=dur c k:=fun k hk hkn=>by unfold dur;rw [hlogs k hk hkn]
 have hg:Grow c d:=Grow.of_cases hcas fun k hk=>by
  by_cases e:k=n
  ·subst e
   rcases hd with e | ⟨f,_,_,_,e⟩
   ·rw [e];exact .refl _
   ·rw [e];exact qzx
  ·rw [hdur k hk e];exact .refl _
 refine ⟨hg,hinv,fun i hi=>by rw [hcas,hbeg];exact h.cnt i hi,fun k hk => ?_,hup,hlen,fun s hs => ?_,fun k hk => ?_,fun i hi hb => ?_⟩
 ·by_cases e:k=n
  ·subst e;exact hrep
  ·show (qbc k (qaq (qab d.logs k).data.toList).1 zeroN).2=0
   rw [hlogs k hk e]
   exact h.rep k hk
 ·obtain ⟨f,e,hf⟩:=h.net s hs
  exact ⟨f,e,hf.grow hg⟩
 ·by_cases e:k=n
  ·subst e
   rcases hd with e | ⟨f,hf,hfn,hk2,e⟩
   ·rw [e];exact (h.node k hk).grow hg
   ·rw [e]
    exact ((h.node k hk).take hk (qcf c k) hf.ent hf.good hfn hk2).2.1.grow hg
  ·rw [hdur k hk e]
   exact (h.node k hk).grow hg
 ·rw [hcas] at hb
  exact (h.cas i hi hb).grow hg hi (by rw [hcas])
theorem q2y {d:GCluster} {n:Nat} {l:List ByteArray} (h:(qaq (qs0 d n)).1=l):dur d n=(qbc n l zeroN).1:=by
 unfold dur
 rw [h]
theorem qxb {c:GCluster} {net:List ByteArray} {b n:Nat} (h:PInv c net b) (hn:n<6) {f:GFrame} (hf:NetF c f) (hfn:f.node=n) (hk:f.kind=1∨f.kind=3) :
  qbc n ((qaq (qs0 c n)).1++[(qef f).1]) zeroN=((qa0 (dur c n) n f).1,0):=by
 have h0:=((h.node n hn).take hn (qcf c n) hf.ent hf.good hfn hk).1
 obtain ⟨_,e2,_⟩:=qw1 hf.good
 have hr:qbc n (qaq (qs0 c n)).1 zeroN=(dur c n,0):=Prod.ext rfl (h.rep n hn)
 rw [qni _ _ _ hr,qbc,e2]
 show (bif (0:Int) != 0 then _ else bif (qa0 (dur c n) n f).2.2 != 0 then _ else qbc n [] (qa0 (dur c n) n f).1)=_
 rw [h0]
 rfl
theorem qmd {c:GCluster} {n:Nat} {x:ByteArray} (hn:n<6) : ∀ k,k<6→k≠n→qab (c.logs.setIfInBounds n x) k=qab c.logs k:=fun k _ hkn=>by rw [qan hn,if_neg (Ne.symm hkn)]
theorem qsv {c:GCluster} {n:Nat} {x:ByteArray} (hn:n<6):qab (c.logs.setIfInBounds n x) n=x:=by rw [qan hn,if_pos rfl]
theorem q2z {c:GCluster} {net:List ByteArray} {b n:Nat} (h:PInv c net b) (hn:n<6) {x:ByteArray} (hx:x.size≤b+102) : ∀ k,k<6→(qab (c.logs.setIfInBounds n x) k).size≤b+102:=fun k hk=>by
 rw [qan hn]
 by_cases e:n=k
 ·rw [if_pos e];exact hx
 ·rw [if_neg e]
  have:=h.len k hk
  omega
theorem qrt {log s:ByteArray} (h1:1≤s.size) (h2:s.size≤400) (h3:log.size+2+s.size≤65536):qe4 log s=0:=by
 unfold qe4
 rw [if_neg (by omega),if_neg (by omega),if_neg (by omega)]
theorem q20 {f:GFrame} (h:qak f=0):1≤(qef f).1.size:=by
 obtain ⟨hb,_⟩:=qu0 (qx0 h)
 have hsz:=qja (strOfNums (quc f))
 rw [q2k hb] at hsz
 have hpos:4≤(quc f).length:=by unfold quc;simp
 unfold qef
 rw [if_pos h]
 show 1≤(strOfNums (quc f)).size
 omega
theorem PInv.comeG {c:GCluster} {net:List ByteArray} {b n:Nat} (h:PInv c net b) (hb:b≤60000) (hn:n<6) {f:GFrame} (hf:NetF c f) (hfn:f.node=n) (hk:f.kind=1∨f.kind=3) :
  (Grow c (qdh c net n f (qef f).1).2.1∧PInv (qdh c net n f (qef f).1).2.1 (qdh c net n f (qef f).1).2.2 (b+102))∧((qdh c net n f (qef f).1).1=0∨(qdh c net n f (qef f).1).1=6):=by
 have hs1:=q20 hf.good
 have hs2:=ql4 f
 have hinv:=h.inv.come hn (f:=f) (s:=(qef f).1)
 have hlen:=h.len n hn
 have hw:=qrt (log:=qab c.logs n) hs1 (by omega) (by omega)
 obtain ⟨t1,t2,t3⟩:=(h.node n hn).take hn (qcf c n) hf.ent hf.good hfn hk
 have hnx:=qxb h hn hf hfn hk
 obtain ⟨_,_,hid⟩:=qa6 hf.good
 have hni:f.node.toNat=n:=by omega
 unfold qdh at hinv ⊢
 cases hd:qab c.down n
 ·obtain ⟨u1,u2⟩:=h.up n hn hd
  rw [hd,cond_false,u1,t1,qad (by rfl)] at hinv
  rw [cond_false,u1,t1,qad (by rfl)]
  have hwhole:qwn (qab c.logs n) (qaq (qs0 c n)).1:=Prod.ext rfl u2
  by_cases ht:qab c.tear n>0
  ·rw [qaj (qaf ht)] at hinv ⊢
   refine ⟨?_,.inr rfl⟩
   obtain ⟨r1,r2⟩:=qze hwhole (qef f).1 (qab c.tear n-1) hs1 (by omega) hw
   have hsz:(qg0 (qab c.logs n) (qef f).1 (qab c.tear n-1)).size≤b+102:=by
    have:qej (qef f).1 (qab c.tear n-1)≤(qef f).1.size+2:=by unfold qej;split<;>(try split)<;>omega
    omega
   have hl:qs0 (ql5 { c with logs:=c.logs.setIfInBounds n (qg0 (qab c.logs n) (qef f).1 (qab c.tear n-1)) } n) n=(qg0 (qab c.logs n) (qef f).1 (qab c.tear n-1)).data.toList:=congrArg (fun x:ByteArray=>x.data.toList) (qsv hn)
   have hc:(qaq (qs0 (ql5 { c with logs:=c.logs.setIfInBounds n (qg0 (qab c.logs n) (qef f).1 (qab c.tear n-1)) } n) n)).1=(qaq (qs0 c n)).1++[(qef f).1]∨(qaq (qs0 (ql5 { c with logs:=c.logs.setIfInBounds n (qg0 (qab c.logs n) (qef f).1 (qab c.tear n-1)) } n) n)).1=(qaq (qs0 c n)).1:=by
    rw [hl,r1]
    split
    ·exact .inl rfl
    ·exact .inr rfl
   refine h.relog hn hinv rfl rfl (qmd hn) ?_ ?_ (q2z h hn hsz) fun k hk hdn => ?_
   ·rcases hc with hc | hc
    ·exact .inr ⟨f,hf,hfn,hk,by rw [q2y hc,hnx]⟩
    ·exact .inl (q2y hc)
   ·rcases hc with hc | hc
    ·rw [hc,hnx]
    ·rw [hc];exact h.rep n hn
   ·have hdn:qab (c.down.setIfInBounds n true) k=false:=hdn
    have hkn:n≠k:=by
     rintro rfl
     rw [qan hn,if_pos rfl] at hdn
     cases hdn
    rw [qan hn,if_neg hkn] at hdn
    obtain ⟨v1,v2⟩:=h.up k hk hdn
    have e1:qab (c.nodes.setIfInBounds n zeroN) k=qab c.nodes k:=by rw [qan hn,if_neg hkn]
    have e2:=qmd (c:=c) (x:=qg0 (qab c.logs n) (qef f).1 (qab c.tear n-1)) hn k hk (Ne.symm hkn)
    refine ⟨?_,?_⟩
    ·show qab (c.nodes.setIfInBounds n zeroN) k=(qbc k (qaq (qab (c.logs.setIfInBounds n _) k).data.toList).1 zeroN).1
     rw [e1,e2]
     exact v1
    ·show (qaq (qab (c.logs.setIfInBounds n _) k).data.toList).2=(qab (c.logs.setIfInBounds n _) k).size
     rw [e2]
     exact v2
  ·have hwo:qto (qab c.logs n) (qef f).1=qgy (qab c.logs n) (qef f).1:=by unfold qto;rw [if_pos hw]
   rw [qad (qae ht),hw,qad (by rfl),hwo] at hinv ⊢
   refine ⟨?_,.inl rfl⟩
   have hnext:=qzd hwhole (qef f).1 hs1 (by omega)
   have hinv0:CInv { c with logs:=c.logs.setIfInBounds n (qgy (qab c.logs n) (qef f).1),nodes:=c.nodes.setIfInBounds n (qa0 (dur c n) n f).1 } net:=by
    have hw2:=ql6 (s:=(qef f).1) (h.inv.log n hn)
    rw [hwo] at hw2
    have h':=(h.inv.setLog hn hw2).setNode hn (x:=(qa0 (dur c n) n f).1) (b:=false) (qex t1) fun e=>by cases e
    have e:({ c with logs:=c.logs.setIfInBounds n (qgy (qab c.logs n) (qef f).1) }:GCluster).down.setIfInBounds n false=c.down:=qmb hd hn
    rw [e] at h'
    exact h'
   have hl:qs0 { c with logs:=c.logs.setIfInBounds n (qgy (qab c.logs n) (qef f).1),nodes:=c.nodes.setIfInBounds n (qa0 (dur c n) n f).1 } n=(qgy (qab c.logs n) (qef f).1).data.toList:=congrArg (fun x:ByteArray=>x.data.toList) (qsv hn)
   have hc:(qaq (qs0 { c with logs:=c.logs.setIfInBounds n (qgy (qab c.logs n) (qef f).1),nodes:=c.nodes.setIfInBounds n (qa0 (dur c n) n f).1 } n)).1=(qaq (qs0 c n)).1++[(qef f).1]:=by rw [hl,hnext]
   have hdn:dur { c with logs:=c.logs.setIfInBounds n (qgy (qab c.logs n) (qef f).1),nodes:=c.nodes.setIfInBounds n (qa0 (dur c n) n f).1 } n=(qa0 (dur c n) n f).1:=by rw [q2y hc,hnx]
   obtain ⟨hg,hp⟩:=h.relog hn hinv0 rfl rfl (qmd hn) (.inr ⟨f,hf,hfn,hk,hdn⟩) (by rw [hc,hnx]) (q2z h hn (by rw [qgz];omega)) fun k hk hdk=>by
    by_cases e:k=n
    ·subst e
     refine ⟨?_,?_⟩
     ·rw [hdn]
      show qab (c.nodes.setIfInBounds k _) k=_
      rw [qan hn,if_pos rfl]
     ·rw [hl,hnext]
      show (qgy _ _).size=(qab (c.logs.setIfInBounds k _) k).size
      rw [qsv hn]
    ·obtain ⟨v1,v2⟩:=h.up k hk hdk
     have e2:=qmd (c:=c) (x:=qgy (qab c.logs n) (qef f).1) hn k hk e
     refine ⟨?_,?_⟩
     ·show qab (c.nodes.setIfInBounds n _) k=(qbc k (qaq (qab (c.logs.setIfInBounds n _) k).data.toList).1 zeroN).1
      rw [qan hn,if_neg (Ne.symm e),e2]
      exact v1
     ·show (qaq (qab (c.logs.setIfInBounds n _) k).data.toList).2=(qab (c.logs.setIfInBounds n _) k).size
      rw [e2]
      exact v2
   refine ⟨hg,hp.send _ fun g hgm hz => ?_⟩
   obtain ⟨g1,g2,g3⟩:=t3 g hgm
   refine ⟨hz,?_⟩
   have:g.node.toNat=n:=by rw [g1];rfl
   rw [this,g2,hdn]
   have hgrow:=hg.cas f.id.toNat (by omega) hf.ent.beg
   have hs0:=((qex t1).state (show f.id.toNat<32 by omega)).1
   exact NetE.grow hg (by rw [g2];omega) hs0 (Kp.refl _) g3
 ·exact ⟨⟨.refl c,h.mono (by omega)⟩,.inr rfl⟩
end Go.Proofs.Yteilffoclpgijaa
