/- What the proof of ClusterRuns rests on, part 5: rules of walks, what functions compute, and plain laws of it. -/
import Derived.Test.YtaimhfbbenbdaaaGreatClusterRunsB4
import Derived.ProofKit
import Derived.OpenShut
import Derived.ShutString
import Derived.ChangeOld
import Derived.SizedLaws
import Derived.Deep.Slices
namespace Go.Proofs.YtaimhfbbenbdaaaGreat
set_option linter.unusedVariables false
open Go.RowKit
open Rep (rep)
abbrev Ek := @Vector.getElem_set
abbrev Ah := @Bool.not_false
section
variable {α : Type} {n:Nat} {v:Vector α n} {k:Nat}
theorem qrp (hk:k<n):qan v (k:Int)=some v[k]:=by
 unfold qan;rw [if_pos (Bx k)];simp [hk]
theorem qc0 {x : α} (hk:k<n):qc1 v (k:Int) x=some (v.set k x):=by
 unfold qc1;rw [if_pos ⟨Bx k,by omega⟩];congr 1;refine Vector.ext fun j hj=>?_;simp [B3,Ek]
end
def bat (v:Vector Bool 32) (k:Nat):Bool:=v[k]?.getD false
theorem q4c {v:Vector Bool 32} {k:Nat} (hk:k<32):v[k]=bat v k:=by simp [bat,hk]
theorem qrq {v:Vector Bool 32} {k:Nat} (hk:k<32):qan v (k:Int)=some (bat v k):=by rw [qrp hk,q4c hk]
theorem qez {v:Vector Bool 32} {k j:Nat} {x:Bool} (hk:k<32):bat (v.set k x) j=if k=j then x else bat v j:=by
 unfold bat;by_cases hj:j<32
 ·simp only [Vector.getElem?_set];by_cases e:k=j
  ·subst e;simp
  ·simp [e]
 ·have hkj:k≠j:=by omega
  simp [hj,hkj]
theorem q73 {v u:Vector Bool 32} (h:∀ k,k<32→bat v k=bat u k):v=u:=by
 refine Vector.ext fun k hk=>?_;rw [q4c hk,q4c hk];exact h k hk
theorem qtd (k:Nat):bat (Zr.zd:Vector Bool 32) k=false:=by
 show bat (Vector.replicate 32 false) k=false;unfold bat;by_cases hk:k<32<;>simp [hk]
def cz (v:Vector Bool 32):Nat:=(List.range 32).countP fun k => !bat v k
theorem q74 {v:Vector Bool 32} {k:Nat} (hk:k<32) (h:bat v k=false):cz v=cz (v.set k true)+1:=by
 unfold cz;refine quj (n:=k) (by simp [h]) (by rw [qez hk,if_pos rfl];rfl) (fun j hj=>?_) _ List.nodup_range (A0.2 hk);rw [qez hk,if_neg (fun e=>hj e.symm)]
theorem zfe (v:Vector Bool 32):cz v≤32:=by
 unfold cz;have:=List.countP_le_length (p:=fun k => !bat v k) (l:=List.range 32);rw [List.length_range] at this;exact this
theorem q75 {v u:Vector Bool 32} (h:∀ k,bat v k=true→bat u k=true):cz u≤cz v:=by
 unfold cz;refine quk (fun k hk=>?_) _;cases hv:bat v k with
 | false=>rfl
 | true=>rw [h k hv] at hk;cases hk
def qa3 (g:GGraph) (a:Nat):List Int:=if h:a<32 then g.deps[a] else []
theorem zcs {g:GGraph} {a:Nat} (h:a<32):qan g.deps (a:Int)=some (qa3 g a):=by rw [qrp h];simp [qa3,h]
def qob (g:GGraph) (a b:Nat):Prop:=a<32∧bat g.known a=true∧(b:Int)∈qa3 g a∧b<32
def qlb (g:GGraph) (N:Nat):Prop:=∀ a,(qa3 g a).length<N∧(qa3 g a).length≤17592186043904
theorem qyj {g:GGraph} {a b:Nat} (h:Path (qob g) a b) (ha:a<32):b<32:=by
 cases h with
 | refl=>exact ha
 | tail _ e=>exact e.2.2.2
theorem qqk {l:List Int} (h:l.length≤100):(l.length+1)*Rep.bytes Int≤140737488351232:=by
 have:Rep.bytes Int=8:=rfl;rw [this];omega
theorem wrs (k:Nat) (h:k≤17592186043904):IntKind.wrap .i64 ((k:Int)+1)=((k+1:Nat):Int):=by rw [qa2 E8 E8];omega
theorem qhf (x:Int):(∃ b:Nat,b<32∧x=b)∨¬ (0≤x∧x<32):=by
 by_cases h:0≤x∧x<32
 ·exact .inl ⟨x.toNat,by omega,by omega⟩
 ·exact .inr h
theorem qyk {α : Type} {l:List α} {k:Nat} (hk:k<l.length):l.drop k=l[k]::l.drop (k+1):=X4 hk
structure Fed (ds:List Int) (d:Vector Bool 32) (l:List Int) (d':Vector Bool 32) (l':List Int):Prop where
 keep:∀ k,bat d k=true→bat d' k=true
 all:∀ b:Nat,b<32→(b:Int)∈ds→bat d' b=true
 only:∀ k,bat d' k=true→bat d k=true∨((k:Int)∈ds∧(k:Int)∈l')
 old:∀ x,x∈l→x∈l'
 new:∀ x,x∈l'→x∈l∨∃ b:Nat,b<32∧x=b∧(b:Int)∈ds∧bat d' b=true
 cnt:l'.length+cz d'=l.length+cz d
theorem Fed.refl {d:Vector Bool 32} {l:List Int}:Fed [] d l d l:=⟨fun _ h=>h,fun _ _ h=>by simp at h,fun _ h => .inl h,fun _ h=>h,fun _ h => .inl h,rfl⟩
theorem Fed.skip {x:Int} {ds:List Int} {d d':Vector Bool 32} {l l':List Int} (hx:∀ b:Nat,b<32→x=b→bat d b=true) (h:Fed ds d l d' l'):Fed (x::ds) d l d' l':=by
 refine ⟨h.keep,fun b hb hm=>?_,fun k hk=>?_,h.old,fun y hy=>?_,h.cnt⟩
 ·rcases X3.1 hm with e | hm
  ·exact h.keep b (hx b hb e.symm)
  ·exact h.all b hb hm
 ·rcases h.only k hk with h1 | h1
  ·exact .inl h1
  ·exact .inr ⟨X0 _ h1.1,h1.2⟩
 ·rcases h.new y hy with h1 | ⟨b,h1,h2,h3,h4⟩
  ·exact .inl h1
  ·exact .inr ⟨b,h1,h2,X0 _ h3,h4⟩
theorem Fed.push {a:Nat} {ds:List Int} {d d':Vector Bool 32} {l l':List Int} (ha:a<32) (hd:bat d a=false) (h:Fed ds (d.set a true) (l++[(a:Int)]) d' l'):Fed ((a:Int)::ds) d l d' l':=by
 have hset:bat (d.set a true) a=true:=by rw [qez ha,if_pos rfl]
 refine ⟨fun k hk=>h.keep k (by rw [qez ha];split<;>simp [hk]),fun b hb hm=>?_,fun k hk=>?_,fun y hy=>h.old y (Bc _ hy),fun y hy=>?_,?_⟩
 ·rcases X3.1 hm with e | hm
  ·have:b=a:=by omega
   subst this;exact h.keep b hset
  ·exact h.all b hb hm
 ·rcases h.only k hk with h1 | h1
  ·rw [qez ha] at h1;by_cases e:a=k
   ·subst e;exact .inr ⟨X2,h.old _ (by simp)⟩
   ·rw [if_neg e] at h1;exact .inl h1
  ·exact .inr ⟨X0 _ h1.1,h1.2⟩
 ·rcases h.new y hy with h1 | ⟨b,h1,h2,h3,h4⟩
  ·rcases Ad.1 h1 with h1 | h1
   ·exact .inl h1
   ·rw [X8] at h1;exact .inr ⟨a,ha,h1,X2,h.keep a hset⟩
  ·exact .inr ⟨b,h1,h2,X0 _ h3,h4⟩
 ·have h1:=h.cnt;have h2:=q74 ha hd;rw [X5] at h1;simp only [X9,Az] at h1;omega
theorem qul {rec:Vector Bool 32→List Int→Option (Vector Bool 32)} {ds:List Int} (hds:ds.length≤17592186043904):∀ (n m k:Nat) (d:Vector Bool 32) (l:List Int),ds.length=k+m→m<n→l.length+cz d≤100 →
 ∃ d' l',qet rec ds n d l k=rec d' l'∧Fed (ds.drop k) d l d' l'
 | 0,m,k,d,l,_,h,_=>absurd h E8
 | n+1,0,k,d,l,hk,_,_=>⟨d,l,by rw [qet,qad (qab E8)],by rw [List.drop_of_length_le E8];exact Fed.refl⟩
 | n+1,m+1,k,d,l,hk,hn,hl=>by
  have hlt:k<ds.length:=by omega
  have ih:=fun d l h=>qul (rec:=rec) hds n m (k+1) d l E8 E8 h;rw [qet,qae (qac E8),qap,Xy hlt,qaa,qyk hlt];simp only [qnm,qpv,wrs k E8];generalize ds[k]=x;rcases qhf x with ⟨b,hb,rfl⟩ | hx
  ·rw [qae (qac E8),qae (qac E8),qak E8 E8,qaa,qrq hb,qaa];cases hd:bat d b with
   | true =>
    obtain ⟨d',l',h1,h2⟩:=ih d l hl;exact ⟨d',l',by rw [← h1];rfl,h2.skip fun c _ e=>(show c=b by omega) ▸ hd⟩
   | false =>
    have hc:=q74 hb hd;obtain ⟨d',l',h1,h2⟩:=ih (d.set b true) (l++[(b:Int)]) (by simp;omega);refine ⟨d',l',?_,h2.push hb hd⟩;simp only [Ah,cond_true,qaa,qc0 hb,qas (a:=l) (b:=[(b:Int)]) (qqk (show l.length≤100 by omega))];exact h1
  ·obtain ⟨d',l',h1,h2⟩:=ih d l hl;refine ⟨d',l',?_,h2.skip fun c hc e=>absurd (show 0≤x∧x<32 by omega) hx⟩;by_cases h0:x≥0
   ·rw [qae (qac h0),qad (qab E8)];exact h1
   ·rw [qad (qab h0)];exact h1
structure Going (g:GGraph) (s:Nat) (d:Vector Bool 32) (l:List Int):Prop where
 first:bat d s=true
 path:∀ k,bat d k=true→Path (qob g) s k
 work:∀ x∈l,∃ b:Nat,b<32∧x=b∧bat d b=true
 closed:∀ a b,bat d a=true→(a:Int)∉l→qob g a b→bat d b=true
theorem Going.fin {g:GGraph} {s:Nat} {d:Vector Bool 32} (h:Going g s d []) (k:Nat):bat d k=true↔Path (qob g) s k :=
 ⟨h.path k,fun hp=>Path.closed (S:=fun a=>bat d a=true) (fun a b ha he=>h.closed a b ha (by simp) he) hp h.first⟩
open Classical in
noncomputable def qw0 (g:GGraph) (s:Nat):Vector Bool 32:=Vector.ofFn fun k=>decide (Path (qob g) s k.val)
theorem qrr {g:GGraph} {s k:Nat} (hk:k<32):bat (qw0 g s) k=true↔Path (qob g) s k:=by
 unfold bat qw0;simp [hk]
theorem q0i {g:GGraph} {s:Nat} {d:Vector Bool 32} (h:∀ k,bat d k=true↔Path (qob g) s k):d=qw0 g s:=by
 refine q73 fun k hk=>?_;rw [Ap,h,qrr hk]
theorem q96 {l:List Int} (h:0<l.length):qwb l none (some ((l.length:Int)-1))=some l.dropLast:=by
 unfold qwb qg2;simp only [Bi,Ae];rw [if_pos E8];simp only [Ac,Option.some.injEq];rw [List.dropLast_eq_take,show ((0:Int)).toNat=0 from rfl,Bf];congr 1;omega
theorem qpe {fu N:Nat} {g:GGraph} (hg:qlb g N) (hf:N≤fu) {s:Nat}:∀ (n:Nat) (d:Vector Bool 32) (l:List Int),Going g s d l→l.length+cz d<n→l.length+cz d≤100→qeu fu g n d l=some (qw0 g s)
 | 0,d,l,_,h,_=>absurd h E8
 | n+1,d,l,hG,hn,hl=>by
  rw [qeu];by_cases h0:l.length=0
  ·have:l=[]:=List.length_eq_zero_iff.1 h0;subst this;rw [qad (qab (by simp)),qaa,q0i hG.fin]
  ·rw [qae (qac E8),qa2 E8 E8,show ((l.length:Int)-1)=((l.length-1:Nat):Int) from by omega,qap,List.getElem?_eq_getElem E8,qaa,
    show (((l.length-1:Nat):Int))=(l.length:Int)-1 from by omega,q96 E8,qaa]
   have hlast:l=l.dropLast++[l[l.length-1]]:=by
    have h1:=List.dropLast_concat_getLast (l:=l) (by rintro rfl;simp at h0);rw [List.getLast_eq_getElem] at h1;exact h1.symm
   obtain ⟨m,hm,hx,hdm⟩:=hG.work l[l.length-1] (At _);rw [hx] at hlast ⊢;generalize hl2:l.dropLast=l2 at hlast ⊢;have hlen:l.length=l2.length+1:=by rw [hlast];simp
   have hmem:∀ x,x∈l→x∈l2∨x=m:=fun x hx=>by
    rw [hlast] at hx;rcases Ad.1 hx with h | h
    ·exact .inl h
    ·exact .inr (by simpa using h)
   have hsub:∀ x,x∈l2→x∈l:=fun x hx=>by rw [hlast];exact Bc _ hx
   rw [qak E8 E8,qaa,qrq hm,qaa];cases hk:bat g.known m with
   | false =>
    rw [qae (by rfl)];refine qpe hg hf n d l2 ⟨hG.first,hG.path,fun x hx=>hG.work x (hsub x hx),fun a b ha hno he=>?_⟩ E8 E8
    by_cases e:a=m
    ·subst e;rw [he.2.1] at hk;cases hk
    ·refine hG.closed a b ha (fun hal=>?_) he;rcases hmem _ hal with h1 | h1
     ·exact hno h1
     ·omega
   | true =>
    rw [qad (by rfl),qaa,zcs hm,qaa];obtain ⟨d',l',h1,h2⟩:=qul (rec:=qeu fu g n) (hg m).2 fu (qa3 g m).length 0 d l2 E8 (by have:=(hg m).1;omega) E8;have h1:qet (qeu fu g n) (qa3 g m) fu d l2 0=qeu fu g n d' l':=h1;rw [h1];rw [Bf] at h2;have hc:=h2.cnt;refine qpe hg hf n d' l' ⟨h2.keep _ hG.first,fun k hk'=>?_,fun x hx=>?_,fun a b ha hno he=>?_⟩ E8 E8
    ·rcases h2.only k hk' with h3 | ⟨h3,h4⟩
     ·exact hG.path k h3
     ·rcases h2.new k h4 with h5 | ⟨b,hb,e,_,_⟩
      ·obtain ⟨b,hb,e,hd⟩:=hG.work _ (hsub _ h5);have:k=b:=by omega
       subst this;exact hG.path k hd
      ·have:k=b:=by omega
       subst this;exact .tail (hG.path m hdm) ⟨hm,hk,h3,hb⟩
    ·rcases h2.new x hx with h3 | ⟨b,hb,e,_,hd⟩
     ·obtain ⟨b,hb,e,hd⟩:=hG.work x (hsub x h3);exact ⟨b,hb,e,h2.keep b hd⟩
     ·exact ⟨b,hb,e,hd⟩
    ·by_cases e:a=m
     ·subst e;exact h2.all b he.2.2.2 he.2.2.1
     ·rcases h2.only a ha with h3 | ⟨_,h3⟩
      ·refine h2.keep b (hG.closed a b h3 (fun hal=>?_) he);rcases hmem _ hal with h4 | h4
       ·exact hno (h2.old _ h4)
       ·omega
      ·exact absurd h3 hno
noncomputable def qlv (g:GGraph) (x:Int):Vector Bool 32:=if 0≤x∧x<32 then qw0 g x.toNat else Zr.zd
theorem qum (g:GGraph) {s:Nat} (hs:s<32):Going g s ((Zr.zd:Vector Bool 32).set s true) [(s:Int)]:=by
 have h1:∀ k,bat ((Zr.zd:Vector Bool 32).set s true) k=true↔s=k:=fun k=>by
  rw [qez hs,qtd];by_cases e:s=k<;>simp [e]
 refine ⟨(h1 s).2 rfl,fun k hk=>?_,fun x hx=>?_,fun a b ha hno he=>?_⟩
 ·rw [(h1 k).1 hk];exact .refl _
 ·exact ⟨s,hs,by simpa using hx,(h1 s).2 rfl⟩
 ·have:=(h1 a).1 ha;subst this;exact absurd (by simp) hno
theorem q76 {fu N:Nat} {g:GGraph} (hg:qlb g N) (hf:N+40≤fu) (x:Int):qzz fu g x=some (qlv g x):=by
 unfold qzz qlv;rcases qhf x with ⟨s,hs,rfl⟩ | hx
 ·rw [qad (qab E8),qnn,qad (qab E8),if_pos E8,qs8,qak E8 E8,qaa,qrq hs,qaa,qc0 hs,qaa,qaa];have hc:=zfe ((Zr.zd:Vector Bool 32).set s true);exact qpe hg E8 fu _ _ (qum g hs) (by simp;omega) (by simp;omega)
 ·rw [if_neg hx];by_cases h0:x<0
  ·rw [qae (qac h0)];rfl
  ·rw [qad (qab h0),qnn,qae (qac E8)];rfl
structure Grown (ds:List Int) (d:Vector Bool 32) (c:Bool) (d':Vector Bool 32) (c':Bool):Prop where
 keep:∀ k,bat d k=true→bat d' k=true
 all:∀ b:Nat,b<32→(b:Int)∈ds→bat d' b=true
 only:∀ k,bat d' k=true→bat d k=true∨((k:Int)∈ds∧k<32)
 same:c'=false→c=false∧d'=d
 less:c'=true→c=true∨cz d'<cz d
theorem Grown.cz {ds:List Int} {d d':Vector Bool 32} {c c':Bool} (h:Grown ds d c d' c'):cz d'≤cz d:=q75 h.keep
theorem qql {y:Int} {rec:Vector Bool 32→Bool→Int→Option (Vector Bool 32)} {ds:List Int} (hds:ds.length≤17592186043904):∀ (n m k:Nat) (d:Vector Bool 32) (c:Bool),ds.length=k+m→m<n →
 ∃ d' c',qct y rec ds n d c k=rec d' c' (IntKind.wrap .i64 (y+1))∧Grown (ds.drop k) d c d' c'
 | 0,m,k,d,c,_,h=>absurd h E8
 | n+1,0,k,d,c,hk,_=>⟨d,c,by rw [qct,qad (qab E8)];rfl,by
  rw [List.drop_of_length_le E8]
  exact ⟨fun _ h=>h,fun _ _ h=>by simp at h,fun _ h => .inl h,fun h=>⟨h,rfl⟩,fun h => .inl h⟩⟩
 | n+1,m+1,k,d,c,hk,hn=>by
  have hlt:k<ds.length:=by omega
  have ih:=fun d c=>qql (y:=y) (rec:=rec) hds n m (k+1) d c E8 E8;rw [qct,qae (qac E8),qap,Xy hlt,qaa,qaa,qyk hlt];simp only [qj2,qj1,wrs k E8];generalize ds[k]=x;have skip:∀ {d' c'},(∀ b:Nat,b<32→x=b→bat d b=true)→Grown (ds.drop (k+1)) d c d' c'→Grown (x::ds.drop (k+1)) d c d' c':=fun {d' c'} hx h2 =>
   ⟨h2.keep,fun b hb hm=>by
    rcases X3.1 hm with e | hm
    ·exact h2.keep b (hx b hb e.symm)
    ·exact h2.all b hb hm,fun j hj=>by
    rcases h2.only j hj with h | h
    ·exact .inl h
    ·exact .inr ⟨X0 _ h.1,h.2⟩,h2.same,h2.less⟩
  rcases qhf x with ⟨b,hb,rfl⟩ | hx
  ·rw [qae (qac E8),qak E8 E8,qaa,qrq hb,qaa];cases hd:bat d b with
   | true =>
    obtain ⟨d',c',h1,h2⟩:=ih d c;exact ⟨d',c',by rw [← h1];rfl,skip (fun a _ e=>(show a=b by omega) ▸ hd) h2⟩
   | false =>
    obtain ⟨d',c',h1,h2⟩:=ih (d.set b true) true;have hset:bat (d.set b true) b=true:=by rw [qez hb,if_pos rfl]
    have hcz:=q74 hb hd;have hcz2:=h2.cz;refine ⟨d',c',?_,⟨fun j hj=>h2.keep j (by rw [qez hb];split<;>simp [hj]),fun a ha hm=>?_,fun j hj=>?_,fun hc=>?_,fun _ => .inr E8⟩⟩
    ·simp only [Ah,cond_true,qaa,qc0 hb];exact h1
    ·rcases X3.1 hm with e | hm
     ·have:a=b:=by omega
      subst this;exact h2.keep a hset
     ·exact h2.all a ha hm
    ·rcases h2.only j hj with h | h
     ·rw [qez hb] at h;by_cases e:b=j
      ·subst e;exact .inr ⟨X2,hb⟩
      ·rw [if_neg e] at h;exact .inl h
     ·exact .inr ⟨X0 _ h.1,h.2⟩
    ·have:=(h2.same hc).1;cases this
  ·obtain ⟨d',c',h1,h2⟩:=ih d c;refine ⟨d',c',?_,skip (fun a ha e=>absurd (show 0≤x∧x<32 by omega) hx) h2⟩;rw [qad (qab hx)];exact h1
structure Pass (g:GGraph) (s:Nat) (k:Nat) (d0 d:Vector Bool 32) (c:Bool):Prop where
 keep:∀ j,bat d0 j=true→bat d j=true
 path:∀ j,bat d j=true→Path (qob g) s j
 same:c=false→d=d0∧∀ a b,a<k→bat d0 a=true→qob g a b→bat d0 b=true
 less:c=true→cz d<cz d0
theorem qqm {fu N:Nat} {g:GGraph} (hg:qlb g N) (hf:N≤fu) {s:Nat} {rec:Vector Bool 32→Bool→Option (Vector Bool 32)} {d0:Vector Bool 32}:∀ (n m k:Nat) (d:Vector Bool 32) (c:Bool),k+m=32→m<n→Pass g s k d0 d c →
 ∃ d' c',qb5 fu g rec n d c k=rec d' c'∧Pass g s 32 d0 d' c'
 | 0,m,k,d,c,_,h,_=>absurd h E8
 | n+1,0,k,d,c,hk,_,hp=>⟨d,c,by rw [qb5,qad (qab E8)],by rw [show (32:Nat)=k from by omega];exact hp⟩
 | n+1,m+1,k,d,c,hk,hn,hp=>by
  have hk32:k<32:=by omega
  have ih:=fun d c=>qqm (s:=s) hg hf (rec:=rec) (d0:=d0) n m (k+1) d c E8 E8;have stay:(bat d k=true→bat g.known k=true→False)→Pass g s (k+1) d0 d c:=fun hno =>
   ⟨hp.keep,hp.path,fun hc=>⟨(hp.same hc).1,fun a b ha h0 he=>by
    by_cases e:a=k
    ·subst e
     exact (hno (hp.keep a h0) he.2.1).elim
    ·exact (hp.same hc).2 a b E8 h0 he⟩,hp.less⟩
  rw [qb5,qae (qac E8),qak E8 E8,qaa,qrq hk32,qaa];cases hd:bat d k with
  | false =>
   obtain ⟨d',c',h1,h2⟩:=ih d c (stay fun h=>by rw [hd] at h;cases h);refine ⟨d',c',?_,h2⟩;simp only [Bool.not_false,cond_true,qga,qh9,wrs k E8];exact h1
  | true =>
   rw [qad (by rfl),qaa,qrq hk32,qaa];cases hkn:bat g.known k with
   | false =>
    obtain ⟨d',c',h1,h2⟩:=ih d c (stay fun _ h=>by rw [hkn] at h;cases h);refine ⟨d',c',?_,h2⟩;simp only [Bool.not_false,cond_true,qga,qh9,wrs k E8];exact h1
   | true =>
    obtain ⟨d1,c1,h1,h2⟩:=qql (y:=(k:Int)) (rec:=qb5 fu g rec n) (hg k).2 fu (qa3 g k).length 0 d c E8 (by have:=(hg k).1;omega);have h1:qct (k:Int) (qb5 fu g rec n) (qa3 g k) fu d c 0=_:=h1;rw [List.drop_zero] at h2;have hpass:Pass g s (k+1) d0 d1 c1:=by
     refine ⟨fun j hj=>h2.keep j (hp.keep j hj),fun j hj=>?_,fun hc=>?_,fun hc=>?_⟩
     ·rcases h2.only j hj with h | h
      ·exact hp.path j h
      ·exact .tail (hp.path k hd) ⟨hk32,hkn,h.1,h.2⟩
     ·obtain ⟨hc0,hdd⟩:=h2.same hc;obtain ⟨e0,hcl⟩:=hp.same hc0;refine ⟨hdd.trans e0,fun a b ha h0 he=>?_⟩;by_cases e:a=k
      ·subst e;have:=h2.all b he.2.2.2 he.2.2.1;rw [hdd,e0] at this;exact this
      ·exact hcl a b E8 h0 he
     ·rcases h2.less hc with h | h
      ·have h3:=hp.less h;have h4:=h2.cz;omega
      ·have h3:=q75 hp.keep;omega
    obtain ⟨d',c',h3,h4⟩:=ih d1 c1 hpass;refine ⟨d',c',?_,h4⟩;simp only [Ab,cond_false,qga,qnp];rw [qak E8 E8,qaa,zcs hk32,qaa,h1,wrs k E8];exact h3
theorem qqn {fu N:Nat} {g:GGraph} (hg:qlb g N) (hf:N+40≤fu) {s:Nat}:∀ (n:Nat) (d:Vector Bool 32),bat d s=true→(∀ j,bat d j=true→Path (qob g) s j)→cz d+1<n→qcu fu g n d true=some (qw0 g s)
 | 0,d,_,_,h=>absurd h E8
 | n+1,d,h0,hp,hn=>by
  rw [qcu,qae rfl];obtain ⟨d',c',h1,h2⟩:=qqm (s:=s) hg (show N≤fu by omega) (rec:=qcu fu g n) (d0:=d) fu 32 0 d false E8 E8
   ⟨fun _ h=>h,hp,fun _=>⟨rfl,fun a b ha=>absurd ha E8⟩,fun h=>by cases h⟩
  have h1:qb5 fu g (qcu fu g n) fu d false 0=_:=h1;rw [h1];cases c' with
  | true =>
   have:=h2.less rfl;exact qqn hg hf n d' (h2.keep s h0) h2.path E8
  | false =>
   obtain ⟨rfl,hcl⟩:=h2.same rfl;obtain ⟨n,rfl⟩:∃ q,n=q+1:=⟨n-1,by omega⟩;rw [qcu,qad rfl,qaa];refine congrArg some (q0i fun k=>⟨hp k,fun h=>Path.closed (S:=fun a=>bat d' a=true) (fun a b ha he=>hcl a b he.1 ha he) h h0⟩)
theorem qun {fu N:Nat} {g:GGraph} (hg:qlb g N) (hf:N+40≤fu) (x:Int):qnq fu g x=some (qlv g x):=by
 unfold qnq qlv;rw [qaa];rcases qhf x with ⟨s,hs,rfl⟩ | hx
 ·rw [qac (show (0:Int)≤s∧(s:Int)<32 by omega),qad (c := !true) rfl,if_pos E8,qak E8 E8,qaa,qrq hs,qaa,qc0 hs,qaa,qaa];have hG:=qum g hs;have hc:=zfe ((Zr.zd:Vector Bool 32).set s true);exact qqn hg hf fu _ hG.first hG.path E8
 ·rw [qab hx,qae (c := !false) rfl,if_neg hx,qaa]
def qn2 (g:GGraph) (d:Vector Bool 32) (k:Nat):Prop:=∀ j,k≤j→j<32→bat d j=true→bat g.known j=true
open Classical in
noncomputable def qji (g:GGraph) (x:Int):Bool:=decide ((0≤x∧x<32)∧∀ j,j<32→bat (qlv g x) j=true→bat g.known j=true)
theorem qup {g:GGraph} {d:Vector Bool 32}:∀ (n m k:Nat),k+m=32→m<n→∃ b,qfn g d n k=some b∧(b=true↔qn2 g d k)
 | 0,m,k,_,h=>absurd h E8
 | n+1,0,k,hk,_=>⟨true,by rw [qfn,qad (qab E8)],by simp only [true_iff];intro j h1 h2;omega⟩
 | n+1,m+1,k,hk,hn=>by
  have hk32:k<32:=by omega
  obtain ⟨b,h1,h2⟩:=qup (g:=g) (d:=d) n m (k+1) E8 E8;rw [qfn,qae (qac E8),qrq hk32,qaa];simp only [qpw,qs9,wrs k E8];have step:(bat d k=true→bat g.known k=true)→(b=true↔qn2 g d k):=fun hs=>by
   rw [h2];constructor
   ·intro h j hj;by_cases e:j=k
    ·subst e;intro _;exact hs
    ·exact h j E8
   ·intro h j hj;exact h j E8
  cases hd:bat d k with
  | false=>exact ⟨b,h1,step fun h=>by rw [hd] at h;cases h⟩
  | true =>
   rw [qae rfl,qak E8 E8,qaa,qrq hk32,qaa];cases hkn:bat g.known k with
   | true=>exact ⟨b,h1,step fun _=>hkn⟩
   | false =>
    refine ⟨false,rfl,?_⟩;simp only [A3,false_iff];intro h;have:=h k (Aa _) hk32 hd;rw [hkn] at this;cases this
theorem qqo {g:GGraph} {x:Int} {d:Vector Bool 32}:∀ (n m k:Nat),k+m=32→m<n→∃ b,qcv g x d n k=some b∧(b=true↔(0≤x∧x<32)∧qn2 g d k)
 | 0,m,k,_,h=>absurd h E8
 | n+1,0,k,hk,_=>⟨decide (0≤x∧x<32),by rw [qcv,qad (qab E8),qaa],by
  simp only [decide_eq_true_eq]
  exact ⟨fun h=>⟨h,fun j h1 h2=>by omega⟩,fun h=>h.1⟩⟩
 | n+1,m+1,k,hk,hn=>by
  have hk32:k<32:=by omega
  obtain ⟨b,h1,h2⟩:=qqo (g:=g) (x:=x) (d:=d) n m (k+1) E8 E8;rw [qcv,qae (qac E8),qrq hk32,qaa];simp only [qj3,qnr,wrs k E8];have step:(bat d k=true→bat g.known k=true)→(b=true↔(0≤x∧x<32)∧qn2 g d k):=fun hs=>by
   rw [h2];refine and_congr_right fun _=>?_;constructor
   ·intro h j hj;by_cases e:j=k
    ·subst e;intro _;exact hs
    ·exact h j E8
   ·intro h j hj;exact h j E8
  cases hd:bat d k with
  | false=>exact ⟨b,h1,step fun h=>by rw [hd] at h;cases h⟩
  | true =>
   rw [qae rfl,qak E8 E8,qaa,qrq hk32,qaa];cases hkn:bat g.known k with
   | true=>exact ⟨b,h1,step fun _=>hkn⟩
   | false =>
    refine ⟨false,rfl,?_⟩;simp only [A3,false_iff];intro h;have:=h.2 k (Aa _) hk32 hd;rw [hkn] at this;cases this
theorem readyZ_iff {g:GGraph} {x:Int}:qji g x=true↔(0≤x∧x<32)∧qn2 g (qlv g x) 0:=by
 unfold qji qn2;simp
theorem q77 {fu N:Nat} {g:GGraph} (hg:qlb g N) (hf:N+40≤fu) (x:Int):qz0 fu g x=some (qji g x):=by
 unfold qz0;rcases qhf x with ⟨s,hs,rfl⟩ | hx
 ·rw [qad (qab E8),qno,qad (qab E8),qta,q76 hg hf,qaa];obtain ⟨b,h1,h2⟩:=qup (g:=g) (d:=qlv g s) fu 32 0 E8 E8;have h1:qfn g (qlv g s) fu 0=some b:=h1;rw [h1];congr 1;rw [Ap,h2,readyZ_iff];simp;omega
 ·have:qji g x=false:=by
   cases h:qji g x with
   | false=>rfl
   | true=>exact absurd (readyZ_iff.1 h).1 hx
  rw [this];by_cases h0:x<0
  ·rw [qae (qac h0)];rfl
  ·rw [qad (qab h0),qno,qae (qac E8)]
theorem q2o {fu N:Nat} {g:GGraph} (hg:qlb g N) (hf:N+40≤fu) (x:Int):qpz fu g x=some (qji g x):=by
 unfold qpz;rw [qun hg hf,qaa];obtain ⟨b,h1,h2⟩:=qqo (g:=g) (x:=x) (d:=qlv g x) fu 32 0 E8 E8;have h1:qcv g x (qlv g x) fu 0=some b:=h1;rw [h1];congr 1;rw [Ap,h2,readyZ_iff]
abbrev Br := @List.drop_of_length_le
abbrev E1 := @Int.min_eq_left
abbrev Eu := @Int.min_eq_right
def iat (v:Vector Int 32) (k:Nat):Int:=v[k]?.getD 0
theorem q5j {v:Vector Int 32} {k:Nat} (hk:k<32):qan v (k:Int)=some (iat v k):=by rw [qrp hk];simp [iat,hk]
theorem quq {v:Vector Int 32} {k j:Nat} {x:Int} (hk:k<32):iat (v.set k x) j=if k=j then x else iat v j:=by
 unfold iat;by_cases hj:j<32
 ·simp only [Vector.getElem?_set];by_cases e:k=j
  ·subst e;simp
  ·simp [e]
 ·have hkj:k≠j:=by omega
  simp [hj,hkj]
theorem qyl (k:Nat):iat (Zr.zd:Vector Int 32) k=0:=by
 show iat (Vector.replicate 32 0) k=0;unfold iat;by_cases hk:k<32<;>simp [hk]
def DE (g:GGraph) (a b:Nat):Prop:=a<32∧(b:Int)∈qa3 g a∧b<32
structure Abs (x:GSearch) (l:List Int) (t:Srch):Prop where
 mark:∀ k,k<32→iat x.mark_ k=(t.mark k:Int)
 low:∀ k,k<32→iat x.low k=(t.low k:Int)
 ring:∀ k,k<32→iat x.ring k=(t.ring k:Int)
 on:∀ k,k<32→bat x.on_ k=decide (k∈t.stack)
 stack:l=t.stack.map fun k=>((k:Nat):Int)
 next:x.next=(t.next:Int)
theorem LI.sub {E:Nat→Nat→Prop} {s t:Srch} {G:List Nat} {n:Nat} {ds ds':Nat→Prop} (h:LI E s G n t ds) (hs:∀ d,ds' d→ds d):LI E s G n t ds' :=
 ⟨h.was,h.white,h.inv,h.ext,h.nmark,h.low_le,h.low_or,h.stack,fun d hd=>h.proc d (hs d hd)⟩
def VOk (g:GGraph) (fu n:Nat):Prop:=∀ (x:GSearch) (l:List Int) (t:Srch) (G:List Nat) (m:Nat),x.g=g→Abs x l t→Inv (DE g) t G→t.mark m=0→m<32→(∀ a∈G,Path (DE g) a m)→wh t.mark≤n →
 ∃ x' l' t',qk1 fu n x l m=some (x',l')∧x'.g=g∧Abs x' l' t'∧Post (DE g) t t' m G
theorem q0j {E:Nat→Nat→Prop} {s:Srch} {G:List Nat} (h:Inv E s G):s.stack.length≤32:=by
 refine qmv 32 s.stack ?_ fun x hx=>h.lt x (h.pos x hx);rw [Eh];refine h.sorted.imp fun {a b} hab=>?_;rintro rfl;omega
theorem qlc {a b:Nat} (h:(a:Int)=b):a=b:=by omega
theorem qur {l:List Int} {y174:Int} {r:Nat} (C:List Nat) (hC:∀ c∈C,c<32) (hlen:C.length≤32):∀ (n m k:Nat) (x:GSearch),C.length=k+m→m<n →
 ∃ x':GSearch,qfo l y174 r (C.map fun c=>((c:Nat):Int)) n x k=((qwb l none (some y174)).bind fun l2=>some ({ x' with stack:=Hole.mk },l2))∧x'.g=x.g∧x'.mark_=x.mark_∧x'.low=x.low∧x'.next=x.next ∧
  (∀ j,iat x'.ring j=if j∈C.drop k then (r:Int) else iat x.ring j)∧(∀ j,bat x'.on_ j=if j∈C.drop k then false else bat x.on_ j)
 | 0,m,k,x,_,h=>absurd h E8
 | n+1,0,k,x,hk,_=>by
  refine ⟨x,?_,rfl,rfl,rfl,rfl,fun j=>?_,fun j=>?_⟩
  ·rw [qfo,qad (qab (by simp;omega))];rfl
  ·rw [Br E8];simp
  ·rw [Br E8];simp
 | n+1,m+1,k,x,hk,hn=>by
  have hlt:k<C.length:=by omega
  have hc:=hC C[k] (At _);obtain ⟨x',h1,h2,h3,h4,h5,h6,h7⟩:=qur (l:=l) (y174:=y174) (r:=r) C hC hlen n m (k+1) { x with ring:=x.ring.set C[k] (r:Int),on_:=x.on_.set C[k] false } E8 E8;refine ⟨x',?_,h2,h3,h4,h5,fun j=>?_,fun j=>?_⟩
  ·rw [qfo,qae (qac (by simp;omega)),qap,Aw,Xy hlt];simp only [Ac,qaa,qak (show (0:Int)≤((C[k]:Nat):Int) by omega) (show ((C[k]:Nat):Int)<32 by omega),q5j hc,qrq hc,qc0 hc,wrs k (show k≤17592186043904 by omega)];exact h1
  ·rw [h6 j,X4 hlt];show (if j∈C.drop (k+1) then (r:Int) else iat (x.ring.set C[k] (r:Int)) j)=_;rw [quq hc];simp only [X3];by_cases e:C[k]=j
   ·rw [if_pos e,if_pos (show j=C[k]∨j∈C.drop (k+1) from .inl e.symm)];split<;>rfl
   ·have e2:¬ j=C[k]:=fun h=>e h.symm;rw [if_neg e];simp only [e2,false_or]
  ·rw [h7 j,X4 hlt];show (if j∈C.drop (k+1) then false else bat (x.on_.set C[k] false) j)=_;rw [qez hc];simp only [X3];by_cases e:C[k]=j
   ·rw [if_pos e,if_pos (show j=C[k]∨j∈C.drop (k+1) from .inl e.symm)];split<;>rfl
   ·have e2:¬ j=C[k]:=fun h=>e h.symm;rw [if_neg e];simp only [e2,false_or]
theorem qus {fu:Nat} {x:GSearch} {l l2:List Int} {y174:Int} (hcut:qwb l (some y174) none=some l2) (C:List Nat) (hlen:C.length≤32):∀ (n m k r:Nat),C.length=k+m→m<n→r∈C→(∀ i v,i<k→C[i]? = some v→r≤v) →
 ∃ r':Nat,qfp fu x l y174 (C.map fun c=>((c:Nat):Int)) n r k=qfo l y174 (r':Int) l2 fu x 0∧r'∈C∧∀ v∈C,r'≤v
 | 0,m,k,r,_,h,_,_=>absurd h E8
 | n+1,0,k,r,hk,_,hr,hmin=>by
  refine ⟨r,?_,hr,fun v hv=>?_⟩
  ·rw [qfp,qad (qab (by simp;omega)),hcut,qaa]
  ·obtain ⟨i,hi,rfl⟩:=List.getElem_of_mem hv;exact hmin i _ E8 (List.getElem?_eq_getElem hi)
 | n+1,m+1,k,r,hk,hn,hr,hmin=>by
  have hlt:k<C.length:=by omega
  have hmn:min (r:Int) (C[k]:Int)=((min r C[k]:Nat):Int):=by
   by_cases h:r≤C[k]
   ·rw [Di h,E1 E8]
   ·rw [Dd E8,Eu E8]
  obtain ⟨r',h1,h2,h3⟩:=qus (fu:=fu) (x:=x) hcut C hlen n m (k+1) (min r C[k]) E8 E8 (by
   by_cases h:r≤C[k]
   ·rw [Di h];exact hr
   ·rw [Dd E8];exact At _) (fun i v hi hv=>by
   by_cases e:i=k
   ·subst e
    rw [Xy hlt] at hv
    cases hv
    exact Et _ _
   ·exact Ar (B7 _ _) (hmin i v E8 hv))
  refine ⟨r',?_,h2,h3⟩;rw [qfp,qae (qac (by simp;omega)),qap,Aw,Xy hlt];simp only [Ac,qaa];rw [hmn,wrs k E8];exact h1
theorem qut {fu:Nat} {x:GSearch} {S:List Nat} {m p:Nat} (hlen:S.length≤32) (hp:S[p]? = some m) (hno:∀ i,p<i→S[i]? ≠ some m):∀ (n d:Nat),d<n→p+d<S.length →
 qh0 fu m x (S.map fun c=>((c:Nat):Int)) n ((p+d:Nat):Int)=(qwb (S.map fun c=>((c:Nat):Int)) (some (p:Int)) none).bind fun l2=>qfp fu x (S.map fun c=>((c:Nat):Int)) p l2 fu m 0
 | 0,d,h,_=>absurd h E8
 | n+1,0,_,hd=>by
  rw [qh0,qap,List.getElem?_map,Nat.add_zero,hp];simp only [Option.map_some,qaa];rw [qad (by simp)]
 | n+1,d+1,hn,hd=>by
  have ih:=qut (fu:=fu) (x:=x) hlen hp hno n d E8 E8;have hlt:p+(d+1)<S.length:=hd;have hne:=hno (p+(d+1)) E8;rw [Xy hlt] at hne;rw [qh0,qap,Aw,Xy hlt];simp only [Ac,qaa];rw [qae (by simp only [bne_iff_ne,ne_eq];exact fun h=>hne (by rw [qlc h])),qa2 E8 E8,show (((p+(d+1):Nat):Int)-1)=((p+d:Nat):Int) from by omega];exact ih
theorem q0k {α : Type} {l:List α} {p:Nat} (hp:p≤l.length):qwb l (some (p:Int)) none=some (l.drop p):=by
 unfold qwb qg2;simp only [Ae,Bi];rw [if_pos E8];simp
theorem q0l {α : Type} {l:List α} {p:Nat} (hp:p≤l.length):qwb l none (some (p:Int))=some (l.take p):=by
 unfold qwb qg2;simp only [Ae,Bi];rw [if_pos E8];simp
theorem q78 {fu n:Nat} (hfu:40≤fu) {g:GGraph} {x:GSearch} {l:List Int} {s t:Srch} {G:List Nat} {m:Nat} {ds:Nat→Prop} (hm:m<32) (hg:x.g=g) (hA:Abs x l t) (h:LI (DE g) s G m t ds) (hall:∀ d,DE g m d→ds d) {rec0:GSearch→List Int→Int→Option (GSearch × List Int)} {xs:List Int} {k:Int} (hk:¬ k<(xs.length:Int)) :
 ∃ x' l' t',qfq fu m rec0 xs (n+1) x l k=some (x',l')∧x'.g=g∧Abs x' l' t'∧Post (DE g) s t' m G:=by
 rw [qfq,qad (qab hk),qak E8 E8,qaa,q5j hm,qaa,qaa,q5j hm,qaa,hA.low m hm,hA.mark m hm];by_cases hlow:t.low m=t.mark m
 ·rw [qad (by simp [hlow])];obtain ⟨new,hst,hnew⟩:=h.stack;have hlen:=q0j h.inv;have hsl:t.stack.length=s.stack.length+(new.length+1):=by rw [hst];simp
  have hp:t.stack[s.stack.length]? = some m:=by rw [hst];simp
  have hno:∀ i,s.stack.length<i→t.stack[i]? ≠ some m:=fun i hi he=>by
   obtain ⟨h1,h2⟩:=Xz.1 he;obtain ⟨h3,h4⟩:=Xz.1 hp;have:=A7.1 h.inv.sorted s.stack.length i h3 h1 hi;rw [h2,h4] at this;omega
  have hlm:l=t.stack.map fun c=>((c:Nat):Int):=hA.stack;subst hlm;have e1:=qut (fu:=fu) (x:=x) (S:=t.stack) (m:=m) (p:=s.stack.length) hlen hp hno fu new.length E8 E8;have e0:IntKind.wrap .i64 (((t.stack.map fun c=>((c:Nat):Int)).length:Int)-1)=((s.stack.length+new.length:Nat):Int):=by
   rw [Bs,qa2 E8 E8];omega
  have hcut:qwb (t.stack.map fun c=>((c:Nat):Int)) (some (s.stack.length:Int)) none=some ((m::new).map fun c=>((c:Nat):Int)):=by
   rw [q0k (by rw [Bs];omega),hst,← E5,Ef]
  have hC:∀ c∈m::new,c<32:=fun c hc=>h.inv.lt c (h.inv.pos c (by rw [hst];exact Bu _ hc));have hCl:(m::new).length≤32:=by rw [X9];omega
  rw [e0,e1,hcut,qaa];obtain ⟨r,h3,h4,h5⟩:=qus (fu:=fu) (x:=x) hcut (m::new) hCl fu (m::new).length 0 m E8 E8 X2 (fun i v hi=>by omega);have h3:qfp fu x (t.stack.map fun c=>((c:Nat):Int)) (s.stack.length:Int) ((m::new).map fun c=>((c:Nat):Int)) fu m 0=_:=h3;rw [h3];obtain ⟨x',k1,k2,k3,k4,k5,k6,k7⟩:=qur (l:=t.stack.map fun c=>((c:Nat):Int)) (y174:=(s.stack.length:Int)) (r:=r) (m::new) hC hCl fu (m::new).length 0 x E8 E8;have k1:qfo (t.stack.map fun c=>((c:Nat):Int)) (s.stack.length:Int) r ((m::new).map fun c=>((c:Nat):Int)) fu x 0=_:=k1;rw [k1,q0l (by rw [Bs];omega),qaa];rw [Bf] at k6 k7;refine ⟨_,_,{ t with ring:=fun v=>if v∈m::new then r else t.ring v,stack:=s.stack },rfl,k2.trans hg,⟨fun j hj=>?_,fun j hj=>?_,fun j hj=>?_,fun j hj=>?_,?_,?_⟩,?_⟩
  ·show iat x'.mark_ j=_;rw [k3];exact hA.mark j hj
  ·show iat x'.low j=_;rw [k4];exact hA.low j hj
  ·show iat x'.ring j=((if j∈m::new then r else t.ring j:Nat):Int);rw [k6 j,hA.ring j hj];split<;>rfl
  ·show bat x'.on_ j=decide (j∈s.stack);rw [k7 j,hA.on j hj,hst];by_cases hj2:j∈m::new
   ·rw [if_pos hj2];symm;rw [decide_eq_false_iff_not];intro hs;have:=h.new hst hj2;have:=h.old hs;omega
   ·rw [if_neg hj2];congr 1;rw [Ad];simp [hj2]
  ·show (t.stack.map fun c=>((c:Nat):Int)).take s.stack.length=_;rw [hst,Bm,List.take_left' (by simp)]
  ·show x'.next=_;rw [k5];exact hA.next
  ·exact h.pop hall hlow hst (fun v hv=>if_pos hv) (fun v hv=>if_neg hv) h4 h5
 ·rw [qae (by simp only [bne_iff_ne,ne_eq];exact fun e=>hlow (qlc e))];exact ⟨x,l,t,rfl,hg,hA,h.keep hall hlow⟩
theorem quu {fu n N:Nat} {g:GGraph} (hN:qlb g N) (hfu:N+40≤fu) (hV:VOk g fu n) {s:Srch} {G:List Nat} {m:Nat} (hm:m<32) (hwh:wh s.mark≤n+1):∀ (q r k:Nat) (x:GSearch) (l:List Int) (t:Srch),(qa3 g m).length=k+r→r<q→x.g=g→Abs x l t →
 LI (DE g) s G m t (fun d=>d<32∧(d:Int)∈(qa3 g m).take k)→∃ x' l' t',qfq fu m (qk1 fu n) (qa3 g m) q x l k=some (x',l')∧x'.g=g∧Abs x' l' t'∧Post (DE g) s t' m G
 | 0,r,k,x,l,t,_,h,_,_,_=>absurd h E8
 | q+1,0,k,x,l,t,hk,_,hg,hA,hL=>q78 E8 hm hg hA hL (fun d hd=>⟨hd.2.2,by rw [List.take_of_length_le E8];exact hd.2.1⟩) E8
 | q+1,r+1,k,x,l,t,hk,hq,hg,hA,hL=>by
  have hlt:k<(qa3 g m).length:=by omega
  have hlen:=(hN m).2;have ih:=fun x l t h1 h2 h3=>quu (s:=s) (G:=G) hN hfu hV hm hwh q r (k+1) x l t E8 E8 h1 h2 h3;have htake:(qa3 g m).take (k+1)=(qa3 g m).take k++[(qa3 g m)[k]]:=List.take_succ_eq_append_getElem hlt;have hmem:(qa3 g m)[k]∈qa3 g m:=List.getElem_mem _;rw [qfq,qae (qac E8),qap,List.getElem?_eq_getElem hlt,qaa];simp only [qpx,qk0,wrs k E8];rw [htake] at ih;generalize (qa3 g m)[k]=y at ih hmem ⊢;rcases qhf y with ⟨d,hd,rfl⟩ | hy
  ·have hset:∀ v:Nat,(v<32∧(v:Int)∈(qa3 g m).take k++[(d:Int)])→((v<32∧(v:Int)∈(qa3 g m).take k)∨v=d):=fun v ⟨h1,h2⟩=>by
    rcases List.mem_append.1 h2 with h3 | h3
    ·exact .inl ⟨h1,h3⟩
    ·exact .inr (qlc (by simpa using h3))
   have hE:DE g m d:=⟨hm,hmem,hd⟩;rw [qad (qab E8),qad (qab E8),qak E8 E8,qaa,q5j hd,qaa,hA.mark d hd];by_cases h0:t.mark d=0
   ·rw [qae (by simp [h0])];have hmm:m∈t.stack:=by obtain ⟨new,hst,_⟩:=hL.stack;rw [hst];simp
    have hw2:wh t.mark≤n:=by
     have h1:=qyi (x:=1) hm hL.white E8;have h2:wh t.mark≤wh (qoh s.mark m 1):=zb7 fun v hv=>by
      by_cases e:v=m
      ·subst e;rw [hL.nmark];omega
      ·rw [qdh _ _ e] at hv;rw [hL.ext.mark_old v hv];exact hv
     omega
    obtain ⟨x',l',t',h1,h2,h3,h4⟩:=hV x l t (m::G) d hg hA hL.inv h0 hd (fun a ha=>by
     rcases X3.1 ha with rfl | ha
     ·exact Path.one hE
     ·have h5:=hL.old (hL.was.gray a ha)
      exact (hL.inv.reach a (X0 _ ha) m hmm E8).tail hE) hw2
    rw [h1,qaa];simp only;simp only [qak (show (0:Int)≤(m:Int) by omega) (show (m:Int)<32 by omega),q5j hm,q5j hd,qc0 hm,qaa];have hL2:=(hL.visit h0 hE h4).sub hset;refine ih _ _ { t' with low:=qoh t'.low m (min (t'.low m) (t'.low d)) } h2 ⟨h3.mark,fun j hj=>?_,h3.ring,h3.on,h3.stack,h3.next⟩ hL2;show iat (x'.low.set m _) j=((qoh t'.low m (min (t'.low m) (t'.low d)) j:Nat):Int);rw [quq hm,h3.low m hm,h3.low d hd];by_cases e:m=j
    ·subst e;rw [if_pos rfl,qen];by_cases h:t'.low m≤t'.low d
     ·rw [Di h,E1 E8]
     ·rw [Dd E8,Eu E8]
    ·rw [if_neg e,qdh _ _ (fun h=>e h.symm)];exact h3.low j hj
   ·rw [qad (by simp;omega),qaa,qrq hd,qaa,hA.on d hd];by_cases hs:d∈t.stack
    ·rw [qae (qac hs)];simp only [qak (show (0:Int)≤(m:Int) by omega) (show (m:Int)<32 by omega),q5j hm,qc0 hm,qaa];have hL2:=(hL.on hs hE).sub hset;refine ih _ _ { t with low:=qoh t.low m (min (t.low m) (t.mark d)) } hg ⟨hA.mark,fun j hj=>?_,hA.ring,hA.on,hA.stack,hA.next⟩ hL2;show iat (x.low.set m _) j=((qoh t.low m (min (t.low m) (t.mark d)) j:Nat):Int);rw [quq hm,hA.low m hm];by_cases e:m=j
     ·subst e;rw [if_pos rfl,qen];by_cases h:t.low m≤t.mark d
      ·rw [Di h,E1 E8]
      ·rw [Dd E8,Eu E8]
     ·rw [if_neg e,qdh _ _ (fun h=>e h.symm)];exact hA.low j hj
    ·rw [qad (qab hs)];exact ih _ _ _ hg hA ((hL.skip E8 hs).sub hset)
  ·have hset:∀ v:Nat,(v<32∧(v:Int)∈(qa3 g m).take k++[y])→(v<32∧(v:Int)∈(qa3 g m).take k):=fun v ⟨h1,h2⟩=>by
    rcases Ad.1 h2 with h3 | h3
    ·exact ⟨h1,h3⟩
    ·have:(v:Int)=y:=by simpa using h3
     exact absurd (show 0≤y∧y<32 by omega) hy
   have:=ih x l t hg hA (hL.sub hset);by_cases h0:y<0
   ·rw [qae (qac h0)];exact this
   ·rw [qad (qab h0),qae (qac E8)];exact this
theorem qsd {fu N:Nat} {g:GGraph} (hN:qlb g N) (hfu:N+40≤fu):∀ n,VOk g fu n
 | 0=>fun x l t G m _ _ _ h0 hm _ hw=>by
  have:=qyi (x:=1) hm h0 E8;omega
 | n+1=>fun x l t G m hg hA hI h0 hm hG hw=>by
  have hc:=hI.cnt;have hw1:=qyi (x:=1) hm h0 E8;have hn:IntKind.wrap .i64 (x.next+1)=((t.next+1:Nat):Int):=by rw [hA.next,qa2 E8 E8];omega
  have hsl:=q0j hI;have hll:l.length=t.stack.length:=by rw [hA.stack];simp
  have hin:inR (m:Int) 32=some ():=qak E8 E8;have happ:app l [(m:Int)]=some (l++[(m:Int)]):=qas (a:=l) (b:=[(m:Int)]) (qqk (show l.length≤100 by omega));rw [qk1];simp only [qaa,hin,q5j hm,hn,qc0 hm,happ,qrq hm];rw [hg,zcs hm,qaa];have hL:=LI.start hI hm h0 hG;refine quu hN hfu (qsd hN hfu n) hm hw fu (qa3 g m).length 0 _ _ (q0f t m) E8 (by have:=(hN m).1;omega) rfl ⟨fun j hj=>?_,fun j hj=>?_,hA.ring,fun j hj=>?_,?_,rfl⟩ (hL.sub fun d hd=>by simp at hd)
  ·show iat (x.mark_.set m _) j=((qoh t.mark m (t.next+1) j:Nat):Int);rw [quq hm];by_cases e:m=j
   ·subst e;rw [if_pos rfl,qen]
   ·rw [if_neg e,qdh _ _ (fun h=>e h.symm)];exact hA.mark j hj
  ·show iat (x.low.set m _) j=((qoh t.low m (t.next+1) j:Nat):Int);rw [quq hm];by_cases e:m=j
   ·subst e;rw [if_pos rfl,qen]
   ·rw [if_neg e,qdh _ _ (fun h=>e h.symm)];exact hA.low j hj
  ·show bat (x.on_.set m true) j=decide (j∈t.stack++[m]);rw [qez hm,hA.on j hj];by_cases e:m=j
   ·subst e;simp
   ·have e2:¬ j=m:=fun h=>e h.symm;simp [e,e2]
  ·show l++[(m:Int)]=(t.stack++[m]).map _;rw [hA.stack];simp
theorem q79 {fu N:Nat} {g:GGraph} (hN:qlb g N) (hfu:N+40≤fu) {m:Nat} (hm:m<32):∃ x' l',q7q fu { g:=g,mark_:=Zr.zd,low:=Zr.zd,on_:=Zr.zd,stack:=Zr.zd,ring:=Zr.zd,next:=Zr.zd } [] m=some (x',l')∧x'.g=g ∧
 (∀ k,k<32→(0<iat x'.mark_ k↔Path (DE g) m k))∧(∀ k,k<32→0≤iat x'.mark_ k)∧∀ k,k<32→Path (DE g) m k→∃ r:Nat,iat x'.ring k=r∧qyh (DE g) k r:=by
 let t0:Srch:=⟨fun _=>0,fun _=>0,fun _=>0,[],0⟩;have hI:Inv (DE g) t0 []:=Inv.empty (fun _=>rfl) rfl rfl;have hw:wh t0.mark≤fu:=by have:=hI.cnt;omega
 obtain ⟨x',l',t',h1,h2,h3,h4⟩:=qsd hN hfu fu { g:=g,mark_:=Zr.zd,low:=Zr.zd,on_:=Zr.zd,stack:=Zr.zd,ring:=Zr.zd,next:=Zr.zd } [] t0 [] m rfl
  ⟨fun k _=>qyl k,fun k _=>qyl k,fun k _=>qyl k,fun k _=>by rw [qtd];rfl,rfl,rfl⟩ hI rfl hm (by simp) hw
 obtain ⟨h5,h6⟩:=h4.final fun _=>rfl;refine ⟨x',l',h1,h2,fun k hk=>?_,fun k hk=>?_,fun k hk hp=>⟨t'.ring k,h3.ring k hk,h6 k hp⟩⟩
 ·rw [h3.mark k hk,← h5 k];omega
 ·rw [h3.mark k hk];omega
open Classical in
noncomputable def qat (g:GGraph) (a b:Nat):Bool:=decide (Path (qob g) a b)
theorem pathB_iff {g:GGraph} {a b:Nat}:qat g a b=true↔Path (qob g) a b:=by simp [qat]
theorem qhg (g:GGraph):Pre (qat g) :=
 ⟨fun a _=>pathB_iff.2 (.refl a),fun a b c h1 h2=>pathB_iff.2 ((pathB_iff.1 h1).trans (pathB_iff.1 h2)),fun a b ha h=>qyj (pathB_iff.1 h) ha⟩
noncomputable def qw1 (g:GGraph) (x:Int):List Int:=if qji g x=true then (q4b (qat g) x.toNat).map (fun k=>((k:Nat):Int)) else []
def qa6 (l:List Nat):List Int:=l.map fun k=>((k:Nat):Int)
theorem qhh (l:List Nat):(qa6 l).length=l.length:=by simp [qa6]
theorem qw2 (l:List Nat) (k:Nat):qa6 l++[(k:Int)]=qa6 (l++[k]):=by simp [qa6]
theorem q8a {l:List Nat} {k:Nat}:(k:Int)∈qa6 l↔k∈l:=by
 unfold qa6;rw [Ee];constructor
 ·rintro ⟨a,ha,e⟩;have:a=k:=qlc e;subst this;exact ha
 ·exact fun h=>⟨k,h,rfl⟩
theorem qrs {l:List Nat} {k:Nat}:qco (qa6 l) (k:Int)=decide (k∈l):=by
 rw [Ap,decide_eq_true_eq,← q8a];unfold qco;simp
structure Rings (g:GGraph) (n:Nat) (x:GSearch):Prop where
 same:x.g=g
 known:∀ k,qat g n k=true→bat g.known k=true
 mark:∀ k,k<32→(0<iat x.mark_ k↔qat g n k=true)
 nonneg:∀ k,k<32→0≤iat x.mark_ k
 ring:∀ k,k<32→qat g n k=true→∃ r:Nat,iat x.ring k=r∧qyh (qob g) k r
theorem qi5 {g:GGraph} {n:Nat} (hk:∀ k,qat g n k=true→bat g.known k=true) {a b:Nat} (ha:qat g n a=true):Path (DE g) a b↔Path (qob g) a b:=by
 constructor
 ·intro h
  induction h with
  | refl=>exact .refl _
  | tail _ e ih=>exact ih.tail ⟨e.1,hk _ (pathB_iff.2 ((pathB_iff.1 ha).trans ih)),e.2.1,e.2.2⟩
 ·intro h
  induction h with
  | refl=>exact .refl _
  | tail _ e ih=>exact ih.tail ⟨e.1,e.2.2.1,e.2.2.2⟩
theorem qrt {E:Nat→Nat→Prop} {u v r q:Nat} (hr:qyh E u r) (hq:qyh E v q) (h1:Path E u v) (h2:Path E v u):r=q:=by
 have a:=hr.2.2 q (h1.trans hq.1) (hq.2.1.trans h2);have b:=hq.2.2 r (h2.trans hr.1) (hr.2.1.trans h1);omega
section
variable {g:GGraph} {n:Nat} {x:GSearch} {out:List Nat} {placed:Vector Bool 32}
theorem Rings.least (h:Rings g n x) (hn:n<32) {k:Nat} (hk:qat g n k=true) {r:Nat} (hr:iat x.ring k=r):qyh (qob g) k r:=by
 obtain ⟨q,h1,h2⟩:=h.ring k (qyj (pathB_iff.1 hk) hn) hk;rw [hr] at h1;rw [qlc h1];exact h2
def zhy (g:GGraph) (x:GSearch) (y:Int) (placed:Vector Bool 32) (k:Nat):Prop:=∀ m,k≤m→m<32→iat x.mark_ m≠0→iat x.ring m=y→∀ d:Nat,d<32→(d:Int)∈qa3 g m→iat x.ring d≠y→bat placed d=true
theorem qw3 {y9:Int} {y:Int} {rec:Int→Option Bool} {ds:List Int} (hds:ds.length≤17592186043904):∀ (q r k:Nat),ds.length=k+r→r<q →
 (qdv x y placed y9 rec ds q k=rec (IntKind.wrap .i64 (y9+1))∧∀ d:Nat,d<32→(d:Int)∈ds.drop k→iat x.ring d≠y→bat placed d=true) ∨
 (qdv x y placed y9 rec ds q k=some false∧∃ d:Nat,d<32∧(d:Int)∈ds.drop k∧iat x.ring d≠y∧bat placed d=false)
 | 0,r,k,_,h=>absurd h E8
 | q+1,0,k,hk,_=>by
  left;refine ⟨by rw [qdv,qad (qab E8)];rfl,fun d _ hm=>?_⟩;rw [List.drop_of_length_le E8] at hm;simp at hm
 | q+1,r+1,k,hk,hq=>by
  have hlt:k<ds.length:=by omega
  have ih:=qw3 (y9:=y9) (y:=y) (rec:=rec) hds q r (k+1) E8 E8;rw [qdv,qae (qac E8),qap,Xy hlt,qaa,qyk hlt];simp only [qo8,qx9,wrs k E8];generalize ds[k]=z;have more:(∀ d:Nat,d<32→z=(d:Int)→iat x.ring d≠y→bat placed d=true) →
   (qdv x y placed y9 rec ds q ((k+1:Nat):Int)=rec (IntKind.wrap .i64 (y9+1))∧∀ d:Nat,d<32→(d:Int)∈z::ds.drop (k+1)→iat x.ring d≠y→bat placed d=true) ∨
   (qdv x y placed y9 rec ds q ((k+1:Nat):Int)=some false∧∃ d:Nat,d<32∧(d:Int)∈z::ds.drop (k+1)∧iat x.ring d≠y∧bat placed d=false):=fun hz=>by
   rcases ih with ⟨h1,h2⟩ | ⟨h1,d,h2,h3,h4,h5⟩
   ·refine .inl ⟨h1,fun d hd hm hr=>?_⟩
    rcases X3.1 hm with e | hm
    ·exact hz d hd e.symm hr
    ·exact h2 d hd hm hr
   ·exact .inr ⟨h1,d,h2,X0 _ h3,h4,h5⟩
  rcases qhf z with ⟨d,hd,rfl⟩ | hz
  ·rw [qae (qac E8),qae (qac E8),qak E8 E8,qaa,q5j hd,qaa];by_cases hr:iat x.ring d=y
   ·rw [qad (by simp [hr])];exact more fun c _ e hne=>by
     have:d=c:=qlc e;subst this;exact absurd hr hne
   ·rw [qae (by simp [hr]),qaa,qrq hd,qaa];cases hp:bat placed d with
    | true =>
     exact more fun c _ e _=>by
      have:d=c:=qlc e;subst this;exact hp
    | false=>exact .inr ⟨rfl,d,hd,X2,hr,hp⟩
  ·have:=more fun d hd e _=>absurd (show 0≤z∧z<32 by omega) hz;by_cases h0:z≥0
   ·rw [qae (qac h0),qad (qab E8)];exact this
   ·rw [qad (qab h0)];exact this
theorem qw4 {fu N:Nat} (hN:qlb g N) (hfu:N≤fu) (hg:x.g=g) {y:Int}:∀ (q r k:Nat),k+r=32→r<q→∃ b,qf9 fu x y placed q k=some b∧(b=true↔zhy g x y placed k)
 | 0,r,k,_,h=>absurd h E8
 | q+1,0,k,hk,_=>⟨true,by rw [qf9,qad (qab E8)],by simp only [true_iff];intro m h1 h2;omega⟩
 | q+1,r+1,k,hk,hq=>by
  have hk32:k<32:=by omega
  obtain ⟨b,h1,h2⟩:=qw4 hN hfu hg q r (k+1) E8 E8;have step:(iat x.mark_ k≠0→iat x.ring k=y→∀ d:Nat,d<32→(d:Int)∈qa3 g k→iat x.ring d≠y→bat placed d=true)→(b=true↔zhy g x y placed k):=fun hs=>by
   rw [h2];constructor
   ·intro h m hm;by_cases e:m=k
    ·subst e;intro _;exact hs
    ·exact h m E8
   ·intro h m hm;exact h m E8
  rw [qf9,qae (qac E8),qak E8 E8,qaa,q5j hk32,qaa];simp only [qt2,qt1,wrs k E8];by_cases h0:iat x.mark_ k=0
  ·rw [qae (by simp [h0])];exact ⟨b,h1,step fun h=>absurd h0 h⟩
  ·rw [qad (by simp [h0]),qaa,q5j hk32,qaa];by_cases hr:iat x.ring k=y
   ·rw [qad (by simp [hr]),qya,qak E8 E8,qaa,hg,zcs hk32,qaa];have:=qw3 (x:=x) (placed:=placed) (y9:=(k:Int)) (y:=y) (rec:=qf9 fu x y placed q) (hN k).2 fu (qa3 g k).length 0 E8 (by have:=(hN k).1;omega);rw [Bf,wrs k E8] at this;rcases this with ⟨h3,h4⟩ | ⟨h3,d,hd,h4,h5,h6⟩
    ·have h3:qdv x y placed (k:Int) (qf9 fu x y placed q) (qa3 g k) fu 0=_:=h3;exact ⟨b,by rw [h3];exact h1,step fun _ _=>h4⟩
    ·have h3:qdv x y placed (k:Int) (qf9 fu x y placed q) (qa3 g k) fu 0=_:=h3;refine ⟨false,h3,?_⟩;simp only [A3,false_iff];intro hf;have:=hf k (Aa _) hk32 h0 hr d hd h4 h5;rw [h6] at this;cases this
   ·rw [qae (by simp [hr])];exact ⟨b,h1,step fun _ h=>absurd h hr⟩
def Test (g:GGraph) (n:Nat) (x:GSearch) (out:List Nat) (placed:Vector Bool 32) (y:Nat):Prop:=qat g n y=true∧y∉out∧iat x.ring y=(y:Int)∧zhy g x y placed 0
theorem Test.cand (hR:Rings g n x) (hn:n<32) (hO:OKO (qat g) n out) (hP:∀ k,k<32→bat placed k=decide (k∈out)) {y:Nat} (h:Test g n x out placed y):qjq (qat g) n out y=true:=by
 obtain ⟨h1,h2,h3,h4⟩:=h;have hpre:=qhg g;have hy32:=hpre.lt _ _ hn h1;rw [candO_iff];refine ⟨h1,h2,fun d hd hyd=>?_⟩;have hcl:∀ a b,((qat g y a=true∧qat g a y=true)∨a∈out)→qob g a b→((qat g y b=true∧qat g b y=true)∨b∈out):=by
  intro a b ha hab;rcases ha with ⟨ha1,ha2⟩ | ha
  ·have hyb:=hpre.trans _ _ _ ha1 (pathB_iff.2 (Path.one hab));cases hby:qat g b y with
   | true=>exact .inl ⟨hyb,rfl⟩
   | false =>
    right;have hna:=hpre.trans _ _ _ h1 ha1;have ha32:=hpre.lt _ _ hn hna;obtain ⟨r,hr1,hr2⟩:=hR.ring a ha32 hna;have hra:iat x.ring a=(y:Int):=by
     rw [hr1,qrt hr2 (hR.least hn h1 h3) (pathB_iff.1 ha2) (pathB_iff.1 ha1)]
    have hma:iat x.mark_ a≠0:=by have:=(hR.mark a ha32).2 hna;omega
    have hnb:=hpre.trans _ _ _ h1 hyb;have hrb:iat x.ring b≠(y:Int):=fun e=>by
     have:=(hR.least hn hnb e).1;rw [pathB_iff.2 this] at hby;cases hby
    have:=h4 a (Ag _) ha32 hma hra b hab.2.2.2 hab.2.2.1 hrb;rw [hP b hab.2.2.2] at this;simpa using this
  ·exact .inr (hO.dc a ha b (pathB_iff.2 (Path.one hab)))
 have:=Path.closed (S:=fun a=>(qat g y a=true∧qat g a y=true)∨a∈out) hcl (pathB_iff.1 hyd) (.inl ⟨hpre.refl y hy32,hpre.refl y hy32⟩);rcases this with h5 | h5
 ·exact .inl h5.2
 ·exact .inr h5
theorem Test.of_next (hR:Rings g n x) (hn:n<32) (hO:OKO (qat g) n out) (hP:∀ k,k<32→bat placed k=decide (k∈out)) {c:Nat} (h:qi4 (qat g) n out=some c):Test g n x out placed c:=by
 have hpre:=qhg g;obtain ⟨hc32,hcand,hmin⟩:=qgm h;have hcand':=candO_iff.1 hcand;obtain ⟨h1,h2,h3⟩:=hcand';obtain ⟨r,hr1,hr2⟩:=hR.ring c hc32 h1;have hcr:qat g c r=true:=pathB_iff.2 hr2.1;have hrc:qat g r c=true:=pathB_iff.2 hr2.2.1;have hrle:r≤c:=hr2.2.2 c (.refl _) (.refl _);have hr:r=c:=by
  rcases Dq r c with hlt | hge
  ·have hno:=hmin r hlt;have hy:qjq (qat g) n out r=true:=by
    rw [candO_iff];refine ⟨hpre.trans _ _ _ h1 hcr,fun hro=>h2 (hO.dc r hro c hrc),fun d hd hrd=>?_⟩
    ·rcases h3 d hd (hpre.trans _ _ _ hcr hrd) with h4 | h4
     ·exact .inl (hpre.trans _ _ _ h4 hcr)
     ·exact .inr h4
   rw [hy] at hno;cases hno
  ·omega
 subst hr;refine ⟨h1,h2,hr1,fun a _ ha32 hma hra d hd hmd hrd=>?_⟩;have hna:=(hR.mark a ha32).1 (by have:=hR.nonneg a ha32;omega);have hl:=hR.least hn hna hra;have had:qat g a d=true:=pathB_iff.2 (Path.one ⟨ha32,hR.known a hna,hmd,hd⟩);have hcd:=hpre.trans _ _ _ (pathB_iff.2 hl.2.1) had;rw [hP d hd];rcases h3 d hd hcd with h4 | h4
 ·exfalso;have hnd:=hpre.trans _ _ _ h1 hcd;obtain ⟨q,hq1,hq2⟩:=hR.ring d hd hnd;refine hrd ?_;rw [hq1,qrt hq2 hr2 (pathB_iff.1 h4) (pathB_iff.1 hcd)]
 ·exact qac h4
def zff:Option Nat→Int
 | some a=>a
 | none => -1
def qte (placed:Vector Bool 32) (out:List Nat):Prop:=∀ k,k<32→bat placed k=decide (k∈out)
theorem q97 (hR:Rings g n x) (hn:n<32) {c:Nat} (hc:qat g n c=true) (hrc:iat x.ring c=(c:Int)) {k:Nat} (hk:k<32):(0<iat x.mark_ k∧iat x.ring k=(c:Int))↔(qat g c k=true∧qat g k c=true):=by
 have hpre:=qhg g;constructor
 ·rintro ⟨h1,h2⟩;have hl:=hR.least hn ((hR.mark k hk).1 h1) h2;exact ⟨pathB_iff.2 hl.2.1,pathB_iff.2 hl.1⟩
 ·rintro ⟨h1,h2⟩;have hnk:=hpre.trans _ _ _ hc h1;refine ⟨(hR.mark k hk).2 hnk,?_⟩;obtain ⟨r,hr1,hr2⟩:=hR.ring k hk hnk;rw [hr1,qrt hr2 (hR.least hn hc hrc) (pathB_iff.1 h2) (pathB_iff.1 h1)]
theorem qse {rec:Vector Bool 32→GSearch→List Int→Option (List Int)} (hR:Rings g n x) (hn:n<32) {c:Nat} (hc:qat g n c=true) (hrc:iat x.ring c=(c:Int)):∀ (q r k:Nat) (placed:Vector Bool 32) (o:List Nat),k+r=32→r<q→o.length≤k+32 →
 qte placed o→∃ placed',qdc rec x (c:Int) q placed (qa6 o) k=rec placed' x (qa6 (o++((List.range 32).drop k).filter fun m=>qat g c m&&qat g m c))∧qte placed' (o++((List.range 32).drop k).filter fun m=>qat g c m&&qat g m c)
 | 0,r,k,placed,o,_,h,_,_=>absurd h E8
 | q+1,0,k,placed,o,hk,_,_,hP=>⟨placed,by
  rw [qdc,qad (qab E8),List.drop_of_length_le (by simp;omega),List.filter_nil,List.append_nil],by
  rw [List.drop_of_length_le (by simp;omega),List.filter_nil,List.append_nil];exact hP⟩
 | q+1,r+1,k,placed,o,hk,hq,ho,hP=>by
  have hk32:k<32:=by omega
  have ih:=fun placed o h1 h2=>qse (rec:=rec) hR hn hc hrc q r (k+1) placed o E8 E8 h1 h2;have hmem:=q97 hR hn hc hrc hk32;have hdrop:(List.range 32).drop k=k::(List.range 32).drop (k+1):=by
   rw [X4 (by simp;omega)];simp
  rw [qdc,qae (qac E8),hdrop,Ea];simp only [qak (show (0:Int)≤(k:Int) by omega) (show (k:Int)<32 by omega),qaa,q5j hk32,qmb,qma,wrs k E8];have hno:¬ (0<iat x.mark_ k∧iat x.ring k=(c:Int))→(qat g c k&&qat g k c)=false:=fun h=>by
   cases h1:(qat g c k&&qat g k c) with
   | false=>rfl
   | true=>exact absurd (hmem.2 (by simpa using h1)) h
  by_cases h1:0<iat x.mark_ k
  ·rw [qae (qac h1)];by_cases h2:iat x.ring k=(c:Int)
   ·have h3:=hmem.1 ⟨h1,h2⟩;rw [qae (by simp [h2]),qrq hk32];simp only [qaa,qc0 hk32];rw [qas (a:=qa6 o) (b:=[(k:Int)]) (qqk (show (qa6 o).length≤100 by rw [qhh];omega)),qaa,qw2,h3.1,h3.2];obtain ⟨p',e1,e2⟩:=ih (placed.set k true) (o++[k]) (by simp;omega) (fun j hj=>by
     rw [qez hk32,hP j hj]
     by_cases e:k=j
     ·subst e;simp
     ·have e2:¬ j=k:=fun h=>e h.symm
      simp [e,e2])
    refine ⟨p',?_,?_⟩
    ·rw [e1];simp
    ·simpa using e2
   ·rw [qad (by simp [h2]),hno (fun h=>h2 h.2)];exact ih placed o E8 hP
  ·rw [qad (qab h1),qad rfl,hno (fun h=>h1 h.1)];exact ih placed o E8 hP
theorem qsf {fu N:Nat} (hN:qlb g N) (hfu:N+40≤fu) {rec:Vector Bool 32→GSearch→List Int→Option (List Int)} (hR:Rings g n x) (hn:n<32) (hO:OKO (qat g) n out) (hP:qte placed out):∀ (q r k:Nat),k+r=32→r<q→(∀ j,j<k→qjq (qat g) n out j=true→qi4 (qat g) n out≠some j) →
 qcr fu placed (qa6 out) rec q x (-1) k=qj0 fu placed (qa6 out) rec x (zff (qi4 (qat g) n out))
 | 0,r,k,_,h,_=>absurd h E8
 | q+1,0,k,hk,_,hno=>by
  rw [qcr,qad (qab E8)];cases hc:qi4 (qat g) n out with
  | none=>rfl
  | some c =>
   have:=qgm hc;exact absurd hc (hno c E8 this.2.1)
 | q+1,r+1,k,hk,hq,hno=>by
  have hk32:k<32:=by omega
  have ih:=fun h=>qsf hN hfu (rec:=rec) hR hn hO hP q r (k+1) E8 E8 h;have step:¬ Test g n x out placed k→(∀ j,j<k+1→qjq (qat g) n out j=true→qi4 (qat g) n out≠some j):=fun ht j hj hcj he=>by
   by_cases e:j=k
   ·subst e;exact ht (Test.of_next hR hn hO hP he)
   ·exact hno j E8 hcj he
  rw [qcr,qae (qac E8)];simp only [qak (show (0:Int)≤(k:Int) by omega) (show (k:Int)<32 by omega),qaa,q5j hk32,qrq hk32,qiv,qpy,wrs k E8];by_cases h1:0<iat x.mark_ k
  ·have hnk:=(hR.mark k hk32).1 h1;rw [qae (qac h1),hP k hk32];by_cases h2:k∈out
   ·rw [qac h2,qad (c := !true) rfl];exact ih (step fun ht=>ht.2.1 h2)
   ·rw [qab h2,qae (c := !false) rfl];by_cases h3:iat x.ring k=(k:Int)
    ·rw [qae (by simp [h3])];obtain ⟨b,h4,h5⟩:=qw4 (placed:=placed) hN (show N≤fu by omega) hR.same (y:=(k:Int)) fu 32 0 E8 E8;have h4:q92 fu x (k:Int) placed=some b:=h4;rw [h4,qaa];cases hb:b with
     | true =>
      rw [qae rfl];have ht:Test g n x out placed k:=⟨hnk,h2,h3,h5.1 hb⟩;have hcand:=ht.cand hR hn hO hP;have hnext:qi4 (qat g) n out=some k:=by
       cases hc:qi4 (qat g) n out with
       | none=>rw [nextO_none.1 hc k hk32] at hcand;cases hcand
       | some c =>
        obtain ⟨c1,c2,c3⟩:=qgm hc;rcases Nat.lt_trichotomy c k with h | h | h
        ·exact absurd hc (hno c h c2)
        ·rw [h]
        ·rw [c3 k h] at hcand;cases hcand
      rw [hnext];rfl
     | false =>
      rw [qad rfl];refine ih (step fun ht=>?_);rw [h5.2 ht.2.2.2] at hb;cases hb
    ·rw [qad (by simp [h3]),qad rfl];exact ih (step fun ht=>h3 ht.2.2.1)
  ·rw [qad (qab h1),qad rfl];exact ih (step fun ht=>h1 ((hR.mark k hk32).2 ht.1))
theorem qsg {fu N:Nat} (hN:qlb g N) (hfu:N+40≤fu) (hR:Rings g n x) (hn:n<32):∀ (q k:Nat) (out:List Nat) (placed:Vector Bool 32),OKO (qat g) n out→qte placed out→k<q→32≤k+out.length →
 qcs fu q placed x (qa6 out)=some (qa6 (qlu (qat g) n k out))
 | 0,k,out,placed,_,_,h,_=>absurd h E8
 | q+1,k,out,placed,hO,hP,hq,hk=>by
  have hpre:=qhg g;have h3:=qsf hN hfu (rec:=qcs fu q) hR hn hO hP fu 32 0 E8 E8 (fun j hj=>absurd hj E8);have h3:qcr fu placed (qa6 out) (qcs fu q) fu x (-1) 0=_:=h3;rw [qcs,h3,qj0];cases hc:qi4 (qat g) n out with
  | none =>
   rw [qae (by rfl)];cases k with
   | zero=>rfl
   | succ k=>simp [qlu,hc]
  | some c =>
   obtain ⟨hc32,hcand,_⟩:=qgm hc;have ht:=Test.of_next hR hn hO hP hc;have hle:=hO.len;show (bif decide ((c:Int)<0) then _ else _)=_;rw [qad (qab E8)];obtain ⟨p',e1,e2⟩:=qse (rec:=qcs fu q) hR hn ht.1 ht.2.2.1 fu 32 0 placed out E8 E8 E8 hP;have e1:qdc (qcs fu q) x (c:Int) fu placed (qa6 out) 0=_:=e1;show qdc (qcs fu q) x (c:Int) fu placed (qa6 out) 0=_;rw [e1];rw [Bf] at e2 ⊢;have hstep:=hO.step hpre hn hc;have hlen:=D1 (qro hpre hc32);cases k with
   | zero=>rw [hO.full E8] at hc;cases hc
   | succ k =>
    have:=qsg hN hfu hR hn q k (out++q0g (qat g) c) p' hstep e2 E8 (by rw [X5];omega);rw [qlu,hc];exact this
end
theorem q0m {g:GGraph} {s:Nat} (hs:s<32) (h:qji g (s:Int)=true):∀ k,qat g s k=true→bat g.known k=true:=by
 intro k hk;have h1:=(readyZ_iff.1 h).2 k (Ag _) (qyj (pathB_iff.1 hk) hs);refine h1 ?_;unfold qlv;rw [if_pos E8];exact (qrr (qyj (pathB_iff.1 hk) hs)).2 (pathB_iff.1 hk)
theorem q5k {fu N:Nat} {g:GGraph} (hN:qlb g N) (hfu:N+80≤fu) (x:Int):qt3 fu g x=some (qw1 g x):=by
 unfold qt3 qw1;rw [q77 hN E8,qaa];cases hr:qji g x with
 | false=>rw [qae (c := !false) rfl,if_neg (by simp)]
 | true =>
  rw [qad (c := !true) rfl,if_pos rfl,qaa];obtain ⟨hx,_⟩:=readyZ_iff.1 hr;obtain ⟨s,hs,rfl⟩:∃ s:Nat,s<32∧x=s:=⟨x.toNat,by omega,by omega⟩;have hkn:=q0m hs hr;obtain ⟨x',l',h1,h2,h3,h4,h5⟩:=q79 hN (show N+40≤fu by omega) hs;rw [h1,qaa];have hself:qat g s s=true:=(qhg g).refl s hs;have hR:Rings g s x':=⟨h2,hkn,fun k hk=>by rw [h3 k hk,qi5 hkn hself,pathB_iff],h4,fun k hk hp=>by
   obtain ⟨r,e1,e2,e3,e4⟩:=h5 k hk ((qi5 hkn hself).2 (pathB_iff.1 hp))
   have hnr:qat g s r=true:=pathB_iff.2 ((pathB_iff.1 hp).trans ((qi5 hkn hp).1 e2))
   refine ⟨r,e1,(qi5 hkn hp).1 e2,(qi5 hkn hnr).1 e3,fun w hw1 hw2=>e4 w ((qi5 hkn hp).2 hw1) ?_⟩
   exact (qi5 hkn (pathB_iff.2 ((pathB_iff.1 hp).trans hw1))).2 hw2⟩
  exact qsg hN E8 hR hs fu 32 [] (Zr.zd:Vector Bool 32) OKO.nil (fun k _=>by rw [qtd];simp) E8 (by simp)
section
variable {g:GGraph} {n:Nat} {out:List Nat} {R:Vector (Vector Bool 32) 32}
theorem zfg {m:Nat} (hm:m<32):qan R (m:Int)=some R[m]:=qrp hm
def qym (g:GGraph) (R:Vector (Vector Bool 32) 32):Prop:=∀ m (h:m<32),∀ d,d<32→bat R[m] d=qat g m d
theorem qqp (hR:qym g R) {y59:Int} {rec:Int→Int→Option (List Int)} {m:Nat} (hm:m<32):∀ (q r k:Nat) (c:Bool),k+r=32→r<q →
 qb6 R (qa6 out) y59 m rec q c k=rec (bif (c&&((List.range 32).drop k).all fun d => !qat g m d||(qat g d m||out.contains d)) then (m:Int) else y59) (IntKind.wrap .i64 ((m:Int)-1))
 | 0,r,k,c,_,h=>absurd h E8
 | q+1,0,k,c,hk,_=>by
  rw [qb6,qad (qab E8),List.drop_of_length_le (by simp;omega)];cases c<;>rfl
 | q+1,r+1,k,c,hk,hq=>by
  have hk32:k<32:=by omega
  have ih:=fun c=>qqp hR (y59:=y59) (rec:=rec) hm q r (k+1) c E8 E8;have hdrop:(List.range 32).drop k=k::(List.range 32).drop (k+1):=by
   rw [X4 (by simp;omega)];simp
  rw [qb6,qae (qac E8),hdrop,Dc];have i1:inR (k:Int) 32=some ():=qak E8 E8;have i2:inR (m:Int) 32=some ():=qak E8 E8;simp only [qgb,wrs k E8,i1,i2,qaa,zfg hm,zfg hk32,qrq hk32,qrq hm,hR m hm k hk32,hR k hk32 m hm,qrs,ih];cases c with
  | false=>rfl
  | true =>
   cases hp:qat g m k with
   | false=>rfl
   | true =>
    cases hq:qat g k m with
    | true=>rfl
    | false =>
     simp only [Ab,cond_false,cond_true,A9,Aj,List.contains_eq_mem]
theorem qqq (hR:qym g R) (hn:n<32) {fu:Nat} (hfu:40≤fu) {rec:List Int→Option (List Int)}:∀ (q k:Nat) (c:Option Nat),k≤32→k<q→(∀ a,c=some a→k≤a∧a<32∧qjq (qat g) n out a=true∧∀ j,k≤j→j<a→qjq (qat g) n out j=false)→(c=none→∀ j,k≤j→j<32→qjq (qat g) n out j=false) →
 qbw fu n R (qa6 out) rec q (zff c) ((k:Int)-1) =
  match qi4 (qat g) n out with | none=>some (qa6 out) | some a=>qbv R rec a fu (qa6 out) 0
 | 0,k,c,_,h,_,_=>absurd h E8
 | q+1,0,c,_,_,hs,hnn=>by
  rw [qbw,qad (qab E8)];cases c with
  | none =>
   rw [nextO_none.2 fun j hj=>hnn rfl j E8 hj];rw [qae (by rfl)];rfl
  | some a =>
   obtain ⟨_,h1,h2,h3⟩:=hs a rfl;rw [q95 h1 h2 fun j hj=>h3 j E8 hj];show (bif decide ((a:Int)<0) then _ else _)=_;rw [qad (qab E8)];rfl
 | q+1,k+1,c,hk,hq,hs,hnn=>by
  have hk32:k<32:=by omega
  have e0:(((k+1:Nat):Int)-1)=(k:Int):=by omega
  have e1:IntKind.wrap .i64 ((k:Int)-1)=(k:Int)-1:=qa2 E8 E8;have ih:=fun c h1 h2=>qqq hR hn hfu (rec:=rec) q k c E8 E8 h1 h2;have i1:inR (k:Int) 32=some ():=qak E8 E8;have i2:inR (n:Int) 32=some ():=qak E8 E8;rw [e0,qbw,qae (qac E8)];simp only [i1,i2,qaa,zfg hn,qrq hk32,hR n hn k hk32,qrs,qj5,qia,qns,e1];have hno:qjq (qat g) n out k=false→qbw fu n R (qa6 out) rec q (zff c) ((k:Int)-1) =
   match qi4 (qat g) n out with | none=>some (qa6 out) | some a=>qbv R rec a fu (qa6 out) 0:=fun hc=>by
   refine ih c (fun a ha=>?_) (fun hcn j hj hj2=>?_)
   ·obtain ⟨h1,h2,h3,h4⟩:=hs a ha
    refine ⟨by omega,h2,h3,fun j hj hj2=>?_⟩
    by_cases e:j=k
    ·subst e;exact hc
    ·exact h4 j E8 hj2
   ·by_cases e:j=k
    ·subst e;exact hc
    ·exact hnn hcn j E8 hj2
  cases hp:qat g n k with
  | false =>
   rw [qae (c := !false) rfl,qae rfl];exact hno (by simp [qjq,hp])
  | true =>
   rw [qad (c := !true) rfl];by_cases hm:k∈out
   ·rw [qac hm,qae rfl];exact hno (by simp [qjq,hm])
   ·rw [qab hm,qad rfl];have h4:=qqp (out:=out) hR (y59:=(zff c)) (rec:=qbw fu n R (qa6 out) rec q) hk32 fu 32 0 true E8 E8;have h4:qb6 R (qa6 out) (zff c) (k:Int) (qbw fu n R (qa6 out) rec q) fu true 0=_:=h4;rw [h4,e1,List.drop_zero,Bool.true_and];have hcand:qjq (qat g) n out k=(List.range 32).all fun d => !qat g k d||(qat g d k||out.contains d):=by
     unfold qjq;rw [hp];simp [hm]
    cases hall:(List.range 32).all fun d => !qat g k d||(qat g d k||out.contains d) with
    | false =>
     rw [qad rfl];exact hno (by rw [hcand,hall])
    | true =>
     rw [qae rfl];refine ih (some k) (fun a ha=>?_) (fun h=>by cases h);cases ha;exact ⟨Aa _,hk32,by rw [hcand,hall],fun j hj hj2=>by omega⟩
theorem qqr (hR:qym g R) {rec:List Int→Option (List Int)} {c:Nat} (hc:c<32):∀ (q r k:Nat) (o:List Nat),k+r=32→r<q→o.length≤k+32 →
 qbv R rec c q (qa6 o) k=rec (qa6 (o++((List.range 32).drop k).filter fun m=>qat g c m&&qat g m c))
 | 0,r,k,o,_,h,_=>absurd h E8
 | q+1,0,k,o,hk,_,_=>by
  rw [qbv,qad (qab E8),List.drop_of_length_le (by simp;omega),List.filter_nil,List.append_nil]
 | q+1,r+1,k,o,hk,hq,ho=>by
  have hk32:k<32:=by omega
  have ih:=fun o h=>qqr hR (rec:=rec) hc q r (k+1) o E8 E8 h;have hdrop:(List.range 32).drop k=k::(List.range 32).drop (k+1):=by
   rw [X4 (by simp;omega)];simp
  have i1:inR (k:Int) 32=some ():=qak E8 E8;have i2:inR (c:Int) 32=some ():=qak E8 E8;rw [qbv,qae (qac E8),hdrop,Ea];simp only [i1,i2,qaa,zfg hc,zfg hk32,qrq hk32,qrq hc,hR c hc k hk32,hR k hk32 c hc,qj7,qj6,wrs k E8];have i0:=ih o E8;have i3:=ih (o++[k]) (by simp;omega);cases qat g k c<;>cases qat g c k
  ·exact i0
  ·exact i0
  ·exact i0
  ·simp only [cond_true,Bool.and_self,if_true];rw [qas (a:=qa6 o) (b:=[(k:Int)]) (qqk (show (qa6 o).length≤100 by rw [qhh];omega)),qaa,qw2,i3];simp
theorem qqs (hR:qym g R) (hn:n<32) {fu:Nat} (hfu:40≤fu):∀ (q k:Nat) (out:List Nat),OKO (qat g) n out→k<q→32≤k+out.length→qb7 fu n R q (qa6 out)=some (qa6 (qlu (qat g) n k out))
 | 0,k,out,_,h,_=>absurd h E8
 | q+1,k,out,hO,hq,hk=>by
  have hpre:=qhg g;rw [qb7,qhh];by_cases hl:out.length<32
  ·rw [qae (qac E8)];have h3:=qqq (out:=out) hR hn hfu (rec:=qb7 fu n R q) fu 32 none E8 E8 (fun a h=>by cases h) (fun _ j h1 h2=>by omega);have h3:qbw fu n R (qa6 out) (qb7 fu n R q) fu (-1) 31=_:=h3;rw [h3];obtain ⟨k,rfl⟩:∃ a,k=a+1:=⟨k-1,by omega⟩;rw [qlu];cases hc:qi4 (qat g) n out with
   | none=>rfl
   | some c =>
    obtain ⟨hc32,hcand,_⟩:=qgm hc;have hstep:=hO.step hpre hn hc;have hlen:=D1 (qro hpre hc32);have h5:=qqr hR (rec:=qb7 fu n R q) hc32 fu 32 0 out E8 E8 E8;have h5:qbv R (qb7 fu n R q) (c:Int) fu (qa6 out) 0=_:=h5;show qbv R (qb7 fu n R q) (c:Int) fu (qa6 out) 0=some (qa6 (qlu (qat g) n k (out++q0g (qat g) c)));rw [h5,Bf];exact qqs hR hn hfu q k (out++q0g (qat g) c) hstep E8 (by rw [X5];omega)
  ·rw [qad (qab E8)];have hfull:=hO.full E8;cases k with
   | zero=>rfl
   | succ k=>simp [qlu,hfull,qj4]
end
theorem qqt {fu N:Nat} {g:GGraph} (hN:qlb g N) (hfu:N+40≤fu) {s:Nat} (hs:s<32):∀ (q r k:Nat) (R:Vector (Vector Bool 32) 32),k+r=32→r<q→(∀ m (h:m<32),m<k→∀ d,d<32→bat R[m] d=qat g m d) →
 qd8 fu g s q R k=some (qa6 (q4b (qat g) s))
 | 0,r,k,R,_,h,_=>absurd h E8
 | q+1,0,k,R,hk,_,hR=>by
  rw [qd8,qad (qab E8)];exact qqs (fun m h d hd=>hR m h E8 d hd) hs E8 fu 32 [] OKO.nil E8 (by simp)
 | q+1,r+1,k,R,hk,hq,hR=>by
  have hk32:k<32:=by omega
  rw [qd8,qae (qac E8),qun hN hfu,qaa,qak E8 E8,qaa,qrp hk32,qaa,qc0 hk32,qaa,qaa,wrs k E8];refine qqt hN hfu hs q r (k+1) _ E8 E8 fun m h hm d hd=>?_;rw [Ek];by_cases e:k=m
  ·subst e;rw [if_pos rfl];unfold qlv;rw [if_pos E8,Ap,qrr hd,pathB_iff];rfl
  ·rw [if_neg e];exact hR m h E8 d hd
theorem q2p {fu N:Nat} {g:GGraph} (hN:qlb g N) (hfu:N+80≤fu) (x:Int):qp0 fu g x=some (qw1 g x):=by
 unfold qp0 qw1;rw [q2o hN E8,qaa];cases hr:qji g x with
 | false=>rw [qae (c := !false) rfl,if_neg (by simp)]
 | true =>
  rw [qad (c := !true) rfl,if_pos rfl];obtain ⟨hx,_⟩:=readyZ_iff.1 hr;obtain ⟨s,hs,rfl⟩:∃ s:Nat,s<32∧x=s:=⟨x.toNat,by omega,by omega⟩;exact qqt hN E8 hs fu 32 0 _ E8 E8 fun m h hm=>absurd hm E8
abbrev B1 := @Bool.false_and
abbrev E6 := @Bool.or_false
theorem qsh {a:List GOp} {fu:Nat} (hf:0<fu):qkx fu a []=some ((a.length:Int)==0):=by
 obtain ⟨fu,rfl⟩:∃ n,fu=n+1:=⟨fu-1,by omega⟩;unfold qkx;cases a with
 | nil=>rfl
 | cons o t =>
  rw [qae (by simp;omega)];congr 1
def qdm (c:GCase):Bool :=
 bif c.begun then qaj c.ops&&qam c.deps
 else !c.fixed&&((c.ops.length:Int)==0&&((c.deps.length:Int)==0&&(decide (c.told=(Zr.zd:Vector Bool 6))&&(decide (c.known=(Zr.zd:Vector Bool 6))&&(decide (c.has=(Zr.zd:Vector Bool 4))&&decide (c.values=(Zr.zd:Vector Int 4)))))))
theorem qmw {fu:Nat} (c:GCase):qit fu c=some (qdm c):=by
 unfold qit qdm qcm qis;simp only [qaa];cases c.begun
 ·generalize (!c.fixed)=b1;generalize ((c.ops.length:Int)==0)=b2;generalize ((c.deps.length:Int)==0)=b3;generalize decide (c.told=(Zr.zd:Vector Bool 6))=b4;generalize decide (c.known=(Zr.zd:Vector Bool 6))=b5;generalize decide (c.has=(Zr.zd:Vector Bool 4))=b6;cases b1<;>cases b2<;>cases b3<;>cases b4<;>cases b5<;>cases b6<;>rfl
 ·generalize qaj c.ops=b1;cases b1<;>rfl
theorem q0n (l:List Int):qkr l []=((l.length:Int)==0):=by
 cases l with
 | nil=>rfl
 | cons a t =>
  rw [show ((((a::t).length:Nat):Int)==0)=false from by simp;omega];unfold qkr;simp
theorem qru {fu:Nat} (hf:0<fu) (c:GCase):qo7 fu c=some (qdm c):=by
 unfold qo7 qps ql8 qb8 qdm;simp only [qaa];rw [show (Zr.zd:List GOp)=[] from rfl,show (Zr.zd:List Int)=[] from rfl,show (Zr.zd:Bool)=false from rfl,qsh hf,q0n];simp only [qaa];cases c.begun
 ·rw [show (c.fixed==false) = !c.fixed from by cases c.fixed<;>rfl];generalize (!c.fixed)=b1;generalize ((c.ops.length:Int)==0)=b2;generalize ((c.deps.length:Int)==0)=b3;generalize decide (c.told=(Zr.zd:Vector Bool 6))=b4;generalize decide (c.known=(Zr.zd:Vector Bool 6))=b5;generalize decide (c.has=(Zr.zd:Vector Bool 4))=b6;cases b1<;>cases b2<;>cases b3<;>cases b4<;>cases b5<;>cases b6<;>rfl
 ·generalize qaj c.ops=b1;cases b1<;>rfl
def qoi (has:Nat→Bool) (s:Int):List GOp→Nat→Bool
 | [],_=>true
 | o::t,k=>bif (qa4 o.key==s && !has k) then false else qoi has s t (k+1)
def qav {n:Nat} (v:Vector Bool n) (k:Nat):Bool:=v[k]?.getD false
theorem qeb {n:Nat} (v:Vector Bool n) (k:Nat) (h:k<n):qan v (k:Int)=some (qav v k):=by
 unfold qan qav;rw [if_pos (Bx k)];simp [h]
theorem quv {c:GCase} {s:Int} (hc:c.ops.length≤4):∀ (n m k:Nat),c.ops.length=k+m→m<n→qgu c s n k=some (qoi (qav c.has) s (c.ops.drop k) k)
 | 0,m,k,_,h=>absurd h E8
 | n+1,0,k,hk,_=>by
  rw [qgu,qad (qab E8),List.drop_of_length_le E8];rfl
 | n+1,m+1,k,hk,hn=>by
  have hlt:k<c.ops.length:=by omega
  have hd:c.ops.drop k=c.ops[k]::c.ops.drop (k+1):=X4 hlt;have hx:c.ops[k]? = some c.ops[k]:=by simp
  have ih:=quv (s:=s) hc n m (k+1) E8 E8;rw [qgu,qae (qac E8),qap,hx,hd];simp only [qaa,qoi];rw [qak E8 E8,qeb c.has k E8];simp only [qaa,qpt,qs5];rw [qa2 E8 E8,show (k:Int)+1=((k+1:Nat):Int) from by omega,ih];cases (qa4 c.ops[k].key==s)<;>cases qav c.has k<;>rfl
theorem quw {c:GCase} {s:Int} (hc:c.ops.length≤4):∀ (n m k:Nat),c.ops.length=k+m→m<n→qgv c s n k=some (!qoi (qav c.has) s (c.ops.drop k) k)
 | 0,m,k,_,h=>absurd h E8
 | n+1,0,k,hk,_=>by
  rw [qgv,qad (qab E8),List.drop_of_length_le E8];rfl
 | n+1,m+1,k,hk,hn=>by
  have hlt:k<c.ops.length:=by omega
  have hd:c.ops.drop k=c.ops[k]::c.ops.drop (k+1):=X4 hlt;have hx:c.ops[k]? = some c.ops[k]:=by simp
  have ih:=quw (s:=s) hc n m (k+1) E8 E8;rw [qgv,qae (qac E8),qap,hx,hd];simp only [qaa,qoi];rw [qak E8 E8,qeb c.has k E8];simp only [qaa,qpu,qs6];rw [qa2 E8 E8,show (k:Int)+1=((k+1:Nat):Int) from by omega,ih];cases (qa4 c.ops[k].key==s)<;>cases qav c.has k<;>rfl
def qed (c:GCase) (s:Int):Bool:=qoi (qav c.has) s c.ops 0
theorem qux {fu:Nat} {c:GCase} {s:Int} (hc:c.ops.length≤4) (hf:5≤fu):qzx fu c s=some (qed c s):=quv hc fu c.ops.length 0 E8 E8
theorem quy {fu:Nat} {c:GCase} {s:Int} (hc:c.ops.length≤4) (hf:5≤fu):qwp fu c s=some (!qed c s):=quw hc fu c.ops.length 0 E8 E8
theorem q0o {has:Nat→Bool} {s:Int}:∀ (l:List GOp) (k:Nat),qag l s=false→qoi has s l k=true
 | [],_,_=>rfl
 | o::t,k,h=>by
  unfold qag at h;rw [List.any_cons,Bool.or_eq_false_iff] at h;rw [qoi,h.1,qad (by rfl)];exact q0o t (k+1) h.2
def qjr (c:GCase) (id:Int) (k:Nat):List GFrame :=
 bif c.fixed then bif !qav c.known k || !qed c (ofZ k) then [⟨3,k,id,c.ops,c.deps,[],[]⟩] else []
 else bif qag c.ops (ofZ k) && !qav c.told k then [⟨1,k,id,c.ops,[],[],[]⟩] else []
def qhi (c:GCase) (id:Int):Nat→Nat→List GFrame
 | 0,_=>[]
 | m+1,k=>qjr c id k++qhi c id m (k+1)
theorem q2q (c:GCase) (id:Int) (k:Nat):(qjr c id k).length≤1:=by
 unfold qjr;cases c.fixed<;>simp only [cond_true,cond_false]
 ·cases (qag c.ops (ofZ k) && !qav c.told k)<;>simp
 ·cases (!qav c.known k || !qed c (ofZ k))<;>simp
theorem qw5 {c:GCase} {id:Int}:∀ (m k:Nat) (f:GFrame),f∈qhi c id m k→f.ops=c.ops
 | 0,k,f,h=>by simp [qhi] at h
 | m+1,k,f,h=>by
  rw [qhi,List.mem_append] at h;rcases h with h | h
  ·unfold qjr at h;cases hfx:c.fixed<;>rw [hfx] at h<;>simp only [cond_true,cond_false] at h
   ·cases hb:(qag c.ops (ofZ k) && !qav c.told k)<;>rw [hb] at h<;>simp at h;rw [h]
   ·cases hb:(!qav c.known k || !qed c (ofZ k))<;>rw [hb] at h<;>simp at h;rw [h]
  ·exact qw5 m (k+1) f h
theorem qw6 {c:GCase} {id:Int}:∀ (m k:Nat),(qhi c id m k).length≤m
 | 0,k=>by simp [qhi]
 | m+1,k=>by
  rw [qhi,List.length_append];have:=q2q c id k;have:=qw6 (c:=c) (id:=id) m (k+1);omega
theorem appF {l:List GFrame} {f:GFrame} (h:l.length≤6):app l [f]=some (l++[f]):=qas (by
 have:Rep.bytes GFrame=120:=rfl
 rw [this]
 simp
 omega)
theorem quz {fu:Nat} {c:GCase} {id:Int} (hc:c.ops.length≤4) (hf:5≤fu):∀ (n m k:Nat) (l:List GFrame),k+m=6→m<n→l.length≤k→qfl fu c id n l k=some (l++qhi c id m k)
 | 0,m,k,l,_,h,_=>absurd h E8
 | n+1,0,k,l,hk,_,_=>by
  rw [qfl,qad (qab E8)];simp [qhi]
 | n+1,m+1,k,l,hk,hn,hl=>by
  have ih:=fun l' hl'=>quz (id:=id) hc hf n m (k+1) l' E8 E8 hl';have hw:IntKind.wrap .i64 ((k:Int)+1)=((k+1:Nat):Int):=by rw [qa2 E8 E8];omega
  rw [qfl,qae (qac E8),qhi];simp only [qaa,qnl,qky,qnk,hw,appF (show l.length≤6 by omega),qeb c.told k E8,qeb c.known k E8,qak (show (0:Int)≤k by omega) (show (k:Int)<6 by omega),qux hc hf];unfold qjr;have i0:=ih l E8;have i1:=fun f=>ih (l++[f]) (by simp;omega);cases hfx:c.fixed
  ·cases ht:qag c.ops (ofZ k)
   ·simp only [Ah,cond_true,cond_false,B1];rw [i0];simp
   ·cases hh:qav c.told k
    ·simp only [Ah,cond_true,cond_false,Aj];rw [i1];simp;rfl
    ·simp only [Ah,Ab,cond_true,cond_false,Aj];rw [i0];simp
  ·cases hh:qav c.known k
   ·simp only [Ah,Ab,cond_true,cond_false,Bool.true_or];rw [i1];simp;rfl
   ·cases ht:qag c.ops (ofZ k)
    ·have hwh:qed c (ofZ k)=true:=q0o c.ops 0 ht;simp only [Ab,cond_true,cond_false,hwh,E6];rw [i0];simp
    ·cases hwh:qed c (ofZ k)
     ·simp only [Ah,Ab,cond_true,cond_false,A9];rw [i1];simp;rfl
     ·simp only [Ab,cond_true,cond_false,E6];rw [i0];simp
theorem qmx {fu:Nat} {c:GCase} {id:Int} (hc:c.ops.length≤4) (hf:5≤fu):∀ (n m k:Nat) (l:List GFrame),k+m=6→m<n→l.length≤k→qbs fu c id n l k=some (l++qhi c id m k)
 | 0,m,k,l,_,h,_=>absurd h E8
 | n+1,0,k,l,hk,_,_=>by
  rw [qbs,qad (qab E8)];simp [qhi]
 | n+1,m+1,k,l,hk,hn,hl=>by
  have ih:=fun l' hl'=>qmx (id:=id) hc hf n m (k+1) l' E8 E8 hl';have hw:IntKind.wrap .i64 ((k:Int)+1)=((k+1:Nat):Int):=by rw [qa2 E8 E8];omega
  rw [qbs,qae (qac E8),qhi];simp only [qaa,qg6,qe3,qe4,qg5,hw,appF (show l.length≤6 by omega),qeb c.told k E8,qeb c.known k E8,qak (show (0:Int)≤k by omega) (show (k:Int)<6 by omega),quy hc hf];unfold qjr;have i0:=ih l E8;have i1:=fun f=>ih (l++[f]) (by simp;omega);cases hfx:c.fixed
  ·cases ht:qag c.ops (ofZ k)
   ·simp only [Ah,cond_true,cond_false,B1];rw [i0];simp
   ·cases hh:qav c.told k
    ·simp only [Ah,cond_true,cond_false,Aj];rw [i1];simp;rfl
    ·simp only [Ah,Ab,cond_true,cond_false,Aj];rw [i0];simp
  ·cases hh:qav c.known k
   ·simp only [Ah,Ab,cond_true,cond_false,Bool.true_or];rw [i1];simp;rfl
   ·cases hwh:qed c (ofZ k)
    ·simp only [Ah,Ab,cond_true,cond_false,A9];rw [i1];simp;rfl
    ·simp only [Ab,cond_true,cond_false,E6];rw [i0];simp
def q2r (c:GCase) (id:Int):Bool:=qdm c&&(c.begun&&(decide (0≤id∧id<32) && !qco c.deps id))
def qjj (c:GCase) (id:Int):List GFrame:=bif q2r c id then qhi c id 6 0 else []
theorem qld {c:GCase} (h:qdm c=true) (hb:c.begun=true):c.ops.length≤4:=by
 unfold qdm at h;rw [hb] at h;simp only [cond_true,X1] at h;exact (qc6 h.1).2
theorem qu0 {fu:Nat} {c:GCase} {id:Int} (hf:7≤fu):qtz fu c id=some (qjj c id):=by
 unfold qtz qjj q2r qjd qs7;rw [qmw];simp only [qaa];cases hg:qdm c
 ·rfl
 ·cases hb:c.begun
  ·rfl
  ·by_cases h0:id<0
   ·rw [qac h0,qab (show ¬ (0≤id∧id<32) by omega)];rfl
   ·by_cases h1:id≥32
    ·rw [qab h0,qac h1,qab (show ¬ (0≤id∧id<32) by omega)];rfl
    ·rw [qab h0,qab h1,qac (show 0≤id∧id<32 by omega)];cases hh:qco c.deps id
     ·have:=quz (fu:=fu) (id:=id) (qld hg hb) E8 fu 6 0 [] E8 E8 (by simp);simpa using this
     ·rfl
theorem qle {fu:Nat} {c:GCase} {id:Int} (hf:7≤fu):qf8 fu c id=some (qjj c id):=by
 unfold qf8 qjj q2r qdu qje;rw [qru E8];simp only [qaa];cases hg:qdm c
 ·rfl
 ·cases hb:c.begun
  ·rfl
  ·cases hd:decide (0≤id∧id<32)
   ·rfl
   ·cases hh:qco c.deps id
    ·have:=qmx (fu:=fu) (id:=id) (qld hg hb) E8 fu 6 0 [] E8 E8 (by simp);simpa using this
    ·rfl
theorem againC_small {c:GCase} {id:Int}:(qjj c id).length≤6∧∀ f∈qjj c id,f.ops.length≤4:=by
 unfold qjj;cases hs:q2r c id
 ·simp
 ·unfold q2r at hs;simp only [X1] at hs;refine ⟨qw6 6 0,fun f hf=>?_⟩;rw [qw5 6 0 f hf];exact qld hs.1 hs.2.1
def zct (ops:List GOp):GCase:=⟨true,false,ops,Zr.zd,Zr.zd,[],Zr.zd,Zr.zd⟩
def noC:GCase:=⟨false,false,[],Zr.zd,Zr.zd,[],Zr.zd,Zr.zd⟩
def qeo (t:GTxn):GCase × List GFrame × Int :=
 bif decide (0≤t.id∧t.id<32) then bif qaj t.ops then (zct t.ops,qjj (zct t.ops) t.id,0) else (noC,[],1) else (noC,[],2)
theorem appO {l:List GOp} (h:l.length≤4):app ([]:List GOp) l=some l:=by
 rw [qas]
 ·simp
 ·have:Rep.bytes GOp=24:=rfl;rw [this];simp;omega
theorem qyn {fu:Nat} {t:GTxn} (hf:7≤fu):qjx fu t=some (qeo t):=by
 unfold qjx qeo qg7 qjf qpr;by_cases h0:t.id<0
 ·rw [qac h0,qab (show ¬ (0≤t.id∧t.id<32) by omega)];rfl
 ·by_cases h1:t.id≥32
  ·rw [qab h0,qac h1,qab (show ¬ (0≤t.id∧t.id<32) by omega)];rfl
  ·rw [qab h0,qab h1,qac (show 0≤t.id∧t.id<32 by omega)];simp only [qaa,cond_false,cond_true];cases hg:qaj t.ops
   ·rfl
   ·simp only [Ab,cond_false,cond_true];rw [appO (qc6 hg).2];simp only [qaa];have:=qu0 (c:=zct t.ops) (id:=t.id) hf;unfold zct at this ⊢;erw [this];rfl
theorem qyo {fu:Nat} {t:GTxn} (hf:7≤fu):qjy fu t=some (qeo t):=by
 unfold qjy qeo;simp only [qaa];cases hd:decide (0≤t.id∧t.id<32)
 ·rfl
 ·cases hg:qaj t.ops
  ·rfl
  ·simp only [Ab,cond_false,cond_true];rw [appO (qc6 hg).2];simp only [qaa];have:=qle (c:=zct t.ops) (id:=t.id) hf;unfold zct at this ⊢;erw [this];rfl
def qee (c:GCase):List Int × Bool:=bif c.begun&&(qdm c&&(qed c 0&&qed c 1)) then (c.values.toList.take c.ops.length,true) else ([],false)
theorem qvw {fu:Nat} {c:GCase} (hf:7≤fu):qiu fu c=some (qee c):=by
 unfold qiu qee qfm qhz;rw [qmw];simp only [qaa];cases hb:c.begun
 ·rfl
 ·cases hg:qdm c
  ·rfl
  ·have hl:=qld hg hb;obtain ⟨fu,rfl⟩:∃ n,fu=n+3:=⟨fu-3,by omega⟩;simp only [Ab,cond_true,cond_false,Aj];rw [qb1,qux hl E8];simp only [qaa];rw [qae (by rfl)];cases qed c 0
   ·rfl
   ·rw [qad (by rfl),qb1,show IntKind.wrap .i64 (0+1)=1 from by rw [qa2 E8 E8];rfl,qux hl E8];simp only [qaa];rw [qae (by rfl)];cases qed c 1
    ·rfl
    ·rw [qad (by rfl),qb1,show IntKind.wrap .i64 (1+1)=2 from by rw [qa2 E8 E8];rfl,qad (by rfl)];have hv:c.values.toList.length=4:=by simp
     have hcut:qwb c.values.toList none (some (c.ops.length:Int))=some (c.values.toList.take c.ops.length):=by
      unfold qwb qg2;rw [if_pos (by simp;omega)];simp
     rw [hcut];simp only [qaa,qf7];rw [qas]
     ·rfl
     ·have:Rep.bytes Int=8:=rfl;rw [this];simp;omega
theorem qoj {c:GCase} (hc:c.ops.length≤4):∀ (n m k:Nat),c.ops.length=k+m→m<n→qc4 c n (c.values.toList.take k) k=some (c.values.toList.take c.ops.length,true)
 | 0,m,k,_,h=>absurd h E8
 | n+1,0,k,hk,_=>by
  rw [qc4,qad (qab E8),show c.ops.length=k from by omega]
 | n+1,m+1,k,hk,hn=>by
  have ih:=qoj hc n m (k+1) E8 E8;have hkv:k<c.values.toList.length:=by simp;omega
  rw [qc4,qae (qac E8),qak E8 E8,qaa];have hv:qan c.values (k:Int)=some (c.values.toList[k]):=by
   unfold qan;rw [if_pos (Bx k)];simp
  rw [hv,qaa,qas,qaa,qa2 E8 E8,← B8 hkv]
  ·exact ih
  ·have:Rep.bytes Int=8:=rfl;rw [this];simp;omega
theorem qsi {fu:Nat} {c:GCase} (hf:7≤fu):qjz fu c=some (qee c):=by
 unfold qjz qee qew qkz;rw [qru E8];simp only [qaa];cases hb:c.begun
 ·rfl
 ·cases hg:qdm c
  ·rfl
  ·have hl:=qld hg hb;rw [quy hl E8,quy hl E8];simp only [qaa];cases qed c 0
   ·rfl
   ·cases qed c 1
    ·rfl
    ·exact qoj hl fu c.ops.length 0 E8 E8
def eat (v:Vector GEntry 32) (k:Nat):GEntry:=v[k]?.getD Zr.zd
theorem q8b {v:Vector GEntry 32} {k:Nat} (hk:k<32):v[k]=eat v k:=by simp [eat,hk]
theorem qs0 {v:Vector GEntry 32} {k:Nat} (hk:k<32):qan v (k:Int)=some (eat v k):=by rw [qrp hk,q8b hk]
theorem zb8 {v:Vector GEntry 32} {k j:Nat} {x:GEntry} (hk:k<32):eat (v.set k x) j=if k=j then x else eat v j:=by
 unfold eat;by_cases hj:j<32
 ·simp only [Vector.getElem?_set];by_cases e:k=j
  ·subst e;simp
  ·simp [e]
 ·have hkj:k≠j:=by omega
  simp [hj,hkj]
theorem q8c {v u:Vector GEntry 32} (h:∀ k,k<32→eat v k=eat u k):v=u:=by
 refine Vector.ext fun k hk=>?_;rw [q8b hk,q8b hk];exact h k hk
theorem zb9 {v:Vector GEntry 32} {k:Nat} (hk:¬ k<32):eat v k=Zr.zd:=by simp [eat,hk]
def qqu (e:GEntry):Bool:=((e.ops.length:Int)==0)&&(((e.first.length:Int)==0)&&(((e.deps.length:Int)==0)&&(((e.at_.length:Int)==0)&&((e.values.length:Int)==0))))
def qyp (m:Int):Int→List Int→Bool
 | _,[]=>true
 | b,k::t=>decide (b<k∧k<m)&&qyp m k t
def qw7 (k:Int) (e:GEntry):Bool:=qaj e.ops&&(qam e.first&&(qam e.deps&&(!qco e.first k&&(!qco e.deps k&&(!(e.state==1&&decide ((e.deps.length:Int)>0))&&(!(e.state != 3&&decide ((e.at_.length:Int)>0))&&(!((e.at_.length:Int) != (e.values.length:Int))&&qyp e.ops.length (-1) e.at_)))))))
def qsj (k:Int) (e:GEntry):Bool:=bif e.state==0 then qqu e else qw7 k e
def qgn (k:Int) (e:GEntry) (there:Bool):Bool:=decide (0≤e.state∧e.state≤3)&&(((e.state==3)==there)&&qsj k e)
structure GoodN (s:GNode):Prop where
 nodup:s.order.Nodup
 inr:∀ m∈s.order,0≤m∧m<32
 ent:∀ k:Nat,k<32→qgn k (eat s.entries k) (decide ((k:Int)∈s.order))=true
open Classical in
noncomputable def qyq (s:GNode):Bool:=decide (GoodN s)
theorem goodN_iff {s:GNode}:qyq s=true↔GoodN s:=by simp [qyq]
structure ESz (e:GEntry) (N:Nat):Prop where
 ops:e.ops.length<N∧e.ops.length*24≤140737488351232
 first:e.first.length<N∧e.first.length≤17592186043904
 deps:e.deps.length<N∧e.deps.length≤17592186043904
 at_:e.at_.length<N∧e.at_.length≤17592186043904
 values:e.values.length<N∧e.values.length≤17592186043904
structure NSz (s:GNode) (N:Nat):Prop where
 order:s.order.length<N∧s.order.length≤17592186043904
 ent:∀ k,ESz (eat s.entries k) N
theorem qok {y69:Int} {rec70:Int→Option Bool} {e:GEntry} (ha:e.at_.length≤17592186043904):∀ (n m k:Nat) (b:Int),e.at_.length=k+m→m<n → -1≤b→(k=0→b = -1)→(∀ j,k=j+1→e.at_[j]? = some b) →
 qbk y69 rec70 e n k=bif qyp e.ops.length b (e.at_.drop k) then qdx y69 rec70 else some false
 | 0,m,k,b,_,h,_,_,_=>absurd h E8
 | n+1,0,k,b,hk,_,_,_,_=>by
  rw [qbk,qad (qab E8),List.drop_of_length_le E8];rfl
 | n+1,m+1,k,b,hk,hn,hb,hb0,hbj=>by
  have hlt:k<e.at_.length:=by omega
  have hx:e.at_[k]? = some e.at_[k]:=Xy hlt;have ih:=qok (y69:=y69) (rec70:=rec70) ha n m (k+1) e.at_[k] E8 E8;rw [qbk,qae (qac E8),qap,hx,qaa,X4 hlt];simp only [qex,qk4,wrs k E8,qyp];generalize hg:e.at_[k]=x at ih hx;by_cases h1:x<0
  ·rw [qae (qac h1),qab (show ¬ (b<x∧x<(e.ops.length:Int)) by omega)];rfl
  ·rw [qad (qab h1)];have ih:=ih E8 E8 (fun j hj=>by rw [show j=k from by omega];exact hx);by_cases h2:x≥(e.ops.length:Int)
   ·rw [qae (qac h2),qab (show ¬ (b<x∧x<(e.ops.length:Int)) by omega)];rfl
   ·rw [qad (qab h2)];cases k with
    | zero =>
     rw [qad (qab E8),qac (show b<x∧x<(e.ops.length:Int) by have:=hb0 rfl;omega),Aj,← ih];rfl
    | succ j =>
     rw [qae (qac E8),show IntKind.wrap .i64 (((j+1:Nat):Int)-1)=(j:Int) by rw [qa2 E8 E8];omega,qap,hbj j rfl,qaa];by_cases h3:b≥x
     ·rw [qac h3,qab (show ¬ (b<x∧x<(e.ops.length:Int)) by omega)];rfl
     ·rw [qab h3,qac (show b<x∧x<(e.ops.length:Int) by omega),Aj,← ih];rfl
theorem q8d {e:GEntry} {N:Nat} (h:ESz e N):decide ((IntKind.wrap .i64 ((IntKind.wrap .i64 ((IntKind.wrap .i64 ((IntKind.wrap .i64 ((e.ops.length:Int)+(e.first.length:Int)))+(e.deps.length:Int)))+(e.at_.length:Int)))+(e.values.length:Int)))>0) = !qqu e:=by
 obtain ⟨⟨_,h1⟩,⟨_,h2⟩,⟨_,h3⟩,⟨_,h4⟩,⟨_,h5⟩⟩:=h;unfold qqu;generalize e.ops.length=a1 at *;generalize e.first.length=a2 at *
 generalize e.deps.length=a3 at *;generalize e.at_.length=a4 at *;generalize e.values.length=a5 at *;rw [qa2 (x:=(a1:Int)+a2) E8 E8,qa2 (x:=(a1:Int)+a2+a3) E8 E8,qa2 (x:=(a1:Int)+a2+a3+a4) E8 E8,qa2 E8 E8];by_cases h:(a1:Int)+a2+a3+a4+a5>0
 ·rw [qac h];symm;rw [Dm];apply Em.2;simp only [ne_eq,X1,beq_iff_eq];omega
 ·rw [qab h];symm;rw [Bool.not_eq_false'];simp only [X1,beq_iff_eq];omega
theorem q0p {fu N k:Nat} {e:GEntry} {there:Bool} (h:ESz e N) (hfu:N≤fu) {rec:Int→Option Bool} :
 (bif decide (e.state<0) then qce fu k rec e true else (bif decide (e.state>3) then qce fu k rec e true else qce fu k rec e (!((e.state==3)==there))))=bif qgn k e there then qdx k rec else some false:=by
 unfold qgn;by_cases h1:e.state<0
 ·rw [qae (qac h1),qab (show ¬ (0≤e.state∧e.state≤3) by omega)];rfl
 ·rw [qad (qab h1)];by_cases h2:e.state>3
  ·rw [qae (qac h2),qab (show ¬ (0≤e.state∧e.state≤3) by omega)];rfl
  ·rw [qad (qab h2),qac (show 0≤e.state∧e.state≤3 by omega),Aj];unfold qce;cases h3:((e.state==3)==there)
   ·rfl
   ·rw [Aj,qad (c := !true) rfl];unfold qk6 qsj;cases h0:(e.state==0)
    ·rw [cond_false,cond_false];have hl:=qok (y69:=k) (rec70:=rec) h.at_.2 fu e.at_.length 0 (-1) E8 (by have:=h.at_.1;omega) E8 E8 E8;have hl:qbk k rec e fu 0=bif qyp e.ops.length (-1) e.at_ then qdx k rec else some false:=hl;simp only [qaa,qa8,qk5,hl];unfold qw7;generalize qaj e.ops=b1;generalize qam e.first=b2
     generalize qam e.deps=b3;generalize qco e.first k=b4
     generalize qco e.deps k=b5;generalize decide ((e.deps.length:Int)>0)=b7;generalize decide ((e.at_.length:Int)>0)=b9;generalize ((e.at_.length:Int) != (e.values.length:Int))=b10;cases b1
     ·rfl
     cases b2
     ·rfl
     cases b3
     ·rfl
     cases b4
     case true=>rfl
     cases b5
     case true=>rfl
     generalize (e.state==1)=b6;generalize (e.state != 3)=b8;cases b6<;>cases b7<;>cases b8<;>cases b9<;>cases b10<;>rfl
    ·rw [cond_true,cond_true,q8d h];cases qqu e<;>rfl
theorem qol {fu N:Nat} {s:GNode} {d:Vector Bool 32} (h:NSz s N) (hfu:N≤fu):∀ (n m k:Nat),k+m=32→m<n→∃ b,qb9 fu s d n k=some b∧(b=true↔∀ j,k≤j→j<32→qgn j (eat s.entries j) (bat d j)=true)
 | 0,m,k,_,h=>absurd h E8
 | n+1,0,k,hk,_=>⟨true,by rw [qb9,qad (qab E8)],by simp only [true_iff];intro j h1 h2;omega⟩
 | n+1,m+1,k,hk,hn=>by
  have hk32:k<32:=by omega
  obtain ⟨b,h1,h2⟩:=qol (d:=d) h hfu n m (k+1) E8 E8;rw [qb9,qae (qac E8),qs0 hk32,qaa,qaa,qak E8 E8,qaa,qrq hk32,qaa,q0p (h.ent k) hfu];cases he:qgn k (eat s.entries k) (bat d k) with
  | false =>
   refine ⟨false,rfl,?_⟩;simp only [A3,false_iff];intro h;rw [h k (Aa _) hk32] at he;cases he
  | true =>
   refine ⟨b,?_,?_⟩
   ·rw [cond_true,qdx,wrs k E8];exact h1
   ·rw [h2];constructor
    ·intro h j hj;by_cases e:j=k
     ·subst e;intro _;exact he
     ·exact h j E8
    ·intro h j hj;exact h j E8
theorem q2s {k:Int} {e:GEntry} {t:Bool} (h:qgn k e t=true):(e.state=3↔t=true):=by
 unfold qgn at h;simp only [X1] at h;have h1:=h.2.1;cases t
 ·simp at h1;simp [h1]
 ·simp at h1;simp [h1]
theorem qom {fu N:Nat} {s:GNode} (h:NSz s N) (hfu:N+40≤fu):∀ (n m k:Nat) (d:Vector Bool 32),s.order.length=k+m→m<n→(s.order.take k).Nodup→(∀ x∈s.order.take k,(0≤x∧x<32))→(∀ j,j<32→bat d j=decide ((j:Int)∈s.order.take k)) →
 ∃ b,qbg fu s n d k=some b∧(b=true↔GoodN s)
 | 0,m,k,d,_,h,_,_,_=>absurd h E8
 | n+1,0,k,d,hk,_,h1,h2,h3=>by
  have hlen:=h.order.2;rw [qbg,qad (qab E8)];rw [Dg E8] at h1 h2 h3;obtain ⟨b,e1,e2⟩:=qol (d:=d) h (show N≤fu by omega) fu 32 0 E8 E8;refine ⟨b,e1,?_⟩;rw [e2];constructor
  ·intro h;exact ⟨h1,h2,fun k hk=>by rw [← h3 k hk];exact h k (Ag _) hk⟩
  ·intro h j _ hj;rw [h3 j hj];exact h.ent j hj
 | n+1,m+1,k,d,hk,hn,h1,h2,h3=>by
  have hlt:k<s.order.length:=by omega
  have hx:s.order[k]? = some s.order[k]:=Xy hlt;have hmem:s.order[k]∈s.order:=At hlt;have htk:s.order.take (k+1)=s.order.take k++[s.order[k]]:=(List.take_append_getElem hlt).symm;have hlen:=h.order.2;rw [qbg,qae (qac E8),qap,hx,qaa];have ih:=qom h hfu n m (k+1);rw [htk] at ih;generalize hg:s.order[k]=x at *;rcases qhf x with ⟨y,hy,rfl⟩ | hno
  ·rw [qad (qab E8),qad (qab E8),qak E8 E8,qaa,qrq hy,qaa];cases hb:bat d y with
   | true =>
    refine ⟨false,rfl,?_⟩;simp only [A3,false_iff];intro hG;have hin:(y:Int)∈s.order.take k:=by rw [h3 y hy] at hb;simpa using hb
    have hnd:=hG.nodup;rw [← List.take_append_drop (k+1) s.order,htk] at hnd;have:=(Dn.1 (Dn.1 hnd).1).2.2 _ hin _ (X8.2 rfl);exact this rfl
   | false =>
    have hnin:(y:Int)∉s.order.take k:=by rw [h3 y hy] at hb;simpa using hb
    rw [cond_false,qaa,qs0 hy,qaa];cases h3s:((eat s.entries y).state != 3) with
    | true =>
     refine ⟨false,rfl,?_⟩;simp only [A3,false_iff];intro hG;have:=(q2s (hG.ent y hy)).2 (by simpa using hmem);rw [this] at h3s;cases h3s
    | false =>
     unfold qdw qk3 qk2;rw [cond_false,qak E8 E8,qaa,qrq hy,qaa,qc0 hy,qaa,qaa,wrs k E8];refine ih (d.set y true) E8 E8 ?_ ?_ ?_
     ·refine Dn.2 ⟨h1,by simp,fun a ha b hb=>?_⟩;rw [X8.1 hb];rintro rfl;exact hnin ha
     ·intro z hz;rcases Ad.1 hz with hz | hz
      ·exact h2 z hz
      ·rw [X8.1 hz];omega
     ·intro j hj;rw [qez hy];by_cases e:y=j
      ·subst e;simp
      ·rw [if_neg e,h3 j hj];congr 1;simp only [Ad,X8,eq_iff_iff];constructor
       ·exact .inl
       ·rintro (h | h)
        ·exact h
        ·omega
  ·have:qdw d k (qbg fu s n) x true=some false:=rfl;refine ⟨false,?_,?_⟩
   ·by_cases h0:x<0
    ·rw [qae (qac h0)];rfl
    ·rw [qad (qab h0),qae (qac E8)];rfl
   ·simp only [A3,false_iff];intro hG;exact hno (hG.inr x hmem)
theorem q0q {fu N:Nat} {s:GNode} (h:NSz s N) (hfu:N+40≤fu):qmd fu s=some (qyq s):=by
 unfold qmd;rw [qaa];obtain ⟨b,h1,h2⟩:=qom h hfu fu s.order.length 0 (Zr.zd:Vector Bool 32) E8 (by have:=h.order.1;omega) (by simp) (by simp) (fun j _=>by rw [qtd];simp);have h1:qbg fu s fu (Zr.zd:Vector Bool 32) 0=some b:=h1;rw [h1];congr 1;rw [Ap,h2,goodN_iff]
abbrev Dp := @List.range_eq_range'
def qsk (k:Int) (e:GEntry) (c:Int):Bool:=decide (0≤e.state∧e.state≤3)&&((bif e.state==3 then c==1 else c==0)&&qsj k e)
theorem qsl {y:Int} {rec:Int→Option Bool} {e:GEntry} (ha:e.at_.length≤17592186043904):∀ (n m k:Nat) (b:Int),e.at_.length=k+m→m<n →
 qd1 y rec e n b k=bif qyp e.ops.length b (e.at_.drop k) then qg9 y rec else some false
 | 0,m,k,b,_,h=>absurd h E8
 | n+1,0,k,b,hk,_=>by
  rw [qd1,qad (qab E8),List.drop_of_length_le E8];rfl
 | n+1,m+1,k,b,hk,hn=>by
  have hlt:k<e.at_.length:=by omega
  have hx:e.at_[k]? = some e.at_[k]:=Xy hlt;have ih:=qsl (y:=y) (rec:=rec) ha n m (k+1) e.at_[k] E8 E8;rw [qd1,qae (qac E8),qap,hx,qaa,X4 hlt];simp only [qmr,qqg,qqf,wrs k E8,qyp];rw [ih];generalize e.at_[k]=x;by_cases h1:x≤b
  ·rw [qae (qac h1),qab (show ¬ (b<x∧x<(e.ops.length:Int)) by omega)];rfl
  ·rw [qad (qab h1)];by_cases h2:x≥(e.ops.length:Int)
   ·rw [qac h2,qab (show ¬ (b<x∧x<(e.ops.length:Int)) by omega)];rfl
   ·rw [qab h2,qac (show b<x∧x<(e.ops.length:Int) by omega)];rfl
theorem qvx {fu N:Nat} {e:GEntry} (h:ESz e N) (hf:0<fu) (h0:(e.state==0)=true) :
 qkg fu e { state:=Zr.zd,ops:=Zr.zd,first:=Zr.zd,deps:=Zr.zd,at_:=Zr.zd,values:=Zr.zd }=some (qqu e):=by
 unfold qkg;have e0:(e.state==(Zr.zd:Int))=true:=h0;have e1:qkx fu e.ops (Zr.zd:List GOp)=some ((e.ops.length:Int)==0):=qsh hf;have e2:∀ l:List Int,qkr l (Zr.zd:List Int)=((l.length:Int)==0):=q0n;rw [e0,cond_true,e1,qaa];simp only [qaa,e2,qch];unfold qqu;cases ((e.ops.length:Int)==0)<;>cases ((e.first.length:Int)==0)<;>cases ((e.deps.length:Int)==0)<;>cases ((e.at_.length:Int)==0)<;>rfl
def qki (fu:Nat) (y8:Int) (rec9:Int→Option Bool) (d25:GEntry) (y31:Int):Option Bool :=
 (bif decide (d25.state<0) then
 qau fu y8 rec9 d25 true
 else
 (bif decide (d25.state>3) then
 qau fu y8 rec9 d25 true
 else
 (bif d25.state==3 then
 (bif y31 != 1 then
 qau fu y8 rec9 d25 true
 else
 (bif d25.state != 3 then
 qau fu y8 rec9 d25 (y31 != 0)
 else
 qau fu y8 rec9 d25 false))
 else
 (bif d25.state != 3 then
 qau fu y8 rec9 d25 (y31 != 0)
 else
 qau fu y8 rec9 d25 false))))
theorem qyr {fu N k:Nat} {e:GEntry} {c:Int} (h:ESz e N) (hfu:N<fu) {rec:Int→Option Bool}:qki fu k rec e c=bif qsk k e c then qg9 k rec else some false:=by
 unfold qki qsk;by_cases h1:e.state<0
 ·rw [qae (qac h1),qab (show ¬ (0≤e.state∧e.state≤3) by omega)];rfl
 ·rw [qad (qab h1)];by_cases h2:e.state>3
  ·rw [qae (qac h2),qab (show ¬ (0≤e.state∧e.state≤3) by omega)];rfl
  ·rw [qad (qab h2),qac (show 0≤e.state∧e.state≤3 by omega),Aj];have hcut:(bif e.state==3 then (bif c != 1 then qau fu k rec e true else (bif e.state != 3 then qau fu k rec e (c != 0) else qau fu k rec e false)) else (bif e.state != 3 then qau fu k rec e (c != 0) else qau fu k rec e false))
    = qau fu k rec e (!(bif e.state==3 then c==1 else c==0)):=by
    have hne:(e.state != 3) = !(e.state==3):=rfl
    have hn1:(c != 1) = !(c==1):=rfl
    have hn0:(c != 0) = !(c==0):=rfl
    rw [hne,hn1,hn0]
    cases (e.state==3)<;>cases (c==1)<;>cases (c==0)<;>rfl
   rw [hcut];unfold qau;cases (bif e.state==3 then c==1 else c==0)
   ·rfl
   ·rw [Aj,qad (c := !true) rfl];unfold qqj qsj;cases h0:(e.state==0)
    ·rw [cond_false,cond_false];have hl:=qsl (y:=k) (rec:=rec) h.at_.2 fu e.at_.length 0 (-1) E8 (by have:=h.at_.1;omega);have hl:qd1 k rec e fu (-1) 0=bif qyp e.ops.length (-1) e.at_ then qg9 k rec else some false:=hl;simp only [qaa,qd9,qha,qqh,qqi,hl];have hlt:decide (e.state<3)=(e.state != 3):=by
      by_cases h3:e.state=3
      ·rw [h3];rfl
      ·rw [qac (show e.state<3 by omega)];simp [h3]
     rw [hlt];unfold qw7;generalize qaj e.ops=b1;generalize qam e.first=b2
     generalize qam e.deps=b3;generalize qco e.first k=b4
     generalize qco e.deps k=b5;generalize decide ((e.deps.length:Int)>0)=b7;generalize decide ((e.at_.length:Int)>0)=b9;generalize ((e.at_.length:Int) != (e.values.length:Int))=b10;cases b1
     ·rfl
     cases b2
     ·rfl
     cases b3
     ·rfl
     cases b4
     case true=>rfl
     cases b5
     case true=>rfl
     generalize (e.state==1)=b6;generalize (e.state != 3)=b8;cases b6<;>cases b7<;>cases b8<;>cases b9<;>cases b10<;>rfl
    ·rw [cond_true,cond_true,qaa,qvx h E8 h0,qaa];cases qqu e<;>rfl
theorem qmy {fu:Nat} {s:GNode} {y:Int} {rec:Int→Option Bool} {e:GEntry} (ho:s.order.length≤17592186043904):∀ (n m k:Nat) (c:Int),s.order.length=k+m→m<n→0≤c→c+m≤17592186043904 →
 qd2 fu s y rec e n c k=qki fu y rec e (c+((s.order.drop k).count y:Nat))
 | 0,m,k,c,_,h,_,_=>absurd h E8
 | n+1,0,k,c,hk,_,_,_=>by
  rw [qd2,qad (qab E8),List.drop_of_length_le E8];simp [qki]
 | n+1,m+1,k,c,hk,hn,hc,hc2=>by
  have hlt:k<s.order.length:=by omega
  have hx:s.order[k]? = some s.order[k]:=Xy hlt;rw [qd2,qae (qac E8),qap,hx,qaa,X4 hlt,List.count_cons];simp only [qmq,wrs k E8];cases h:(s.order[k]==y)
  ·rw [cond_false,qmy ho n m (k+1) c E8 E8 hc E8];simp
  ·rw [cond_true,qa2 E8 E8,qmy ho n m (k+1) (c+1) E8 E8 E8 E8];congr 1;simp only [if_true];omega
theorem qsm {s:GNode} (ho:s.order.length≤17592186043904):∀ (n m k:Nat),s.order.length=k+m→m<n→∃ b,qem s n k=some b∧(b=true↔∀ x∈s.order.drop k,0≤x∧x<32)
 | 0,m,k,_,h=>absurd h E8
 | n+1,0,k,hk,_=>⟨true,by rw [qem,qad (qab E8)],by rw [List.drop_of_length_le E8];simp⟩
 | n+1,m+1,k,hk,hn=>by
  have hlt:k<s.order.length:=by omega
  have hx:s.order[k]? = some s.order[k]:=Xy hlt;obtain ⟨b,h1,h2⟩:=qsm ho n m (k+1) E8 E8;rw [qem,qae (qac E8),qap,hx,qaa,qaa,X4 hlt,wrs k E8,h1];by_cases h:0≤s.order[k]∧s.order[k]<32
  ·refine ⟨b,by rw [qac h];rfl,?_⟩;rw [h2];constructor
   ·intro hA x hx;rcases X3.1 hx with rfl | hx
    ·exact h
    ·exact hA x hx
   ·intro hA x hx;exact hA x (X0 _ hx)
  ·refine ⟨false,by rw [qab h];rfl,?_⟩;simp only [A3,false_iff];intro hA;exact h (hA _ X2)
theorem qsn {fu N:Nat} {s:GNode} (h:NSz s N) (hfu:N<fu):∀ (n m k:Nat),k+m=32→m<n→∃ b,qcz fu s n k=some b∧(b=true↔(∀ j,k≤j→j<32→qsk j (eat s.entries j) (s.order.count (j:Int):Nat)=true)∧∀ x∈s.order,0≤x∧x<32)
 | 0,m,k,_,h=>absurd h E8
 | n+1,0,k,hk,_=>by
  obtain ⟨b,h1,h2⟩:=qsm h.order.2 fu s.order.length 0 E8 (by have:=h.order.1;omega);have h1:qem s fu 0=some b:=h1;refine ⟨b,by rw [qcz,qad (qab E8),h1],?_⟩;rw [h2];simp only [Bf];exact ⟨fun h=>⟨fun j h1 h2=>by omega,h⟩,fun h=>h.2⟩
 | n+1,m+1,k,hk,hn=>by
  have hk32:k<32:=by omega
  obtain ⟨b,h1,h2⟩:=qsn h hfu n m (k+1) E8 E8;have ho:=h.order;have hl:=qmy (fu:=fu) (y:=(k:Int)) (rec:=qcz fu s n) (e:=eat s.entries k) ho.2 fu s.order.length 0 0 E8 E8 E8 E8;have hl:qd2 fu s k (qcz fu s n) (eat s.entries k) fu 0 0=qki fu k (qcz fu s n) (eat s.entries k) (0+(s.order.count (k:Int):Nat)):=hl;rw [qcz,qae (qac E8),qs0 hk32,qaa,qaa,hl,qyr (h.ent k) hfu,D0];cases he:qsk k (eat s.entries k) (s.order.count (k:Int):Nat) with
  | false =>
   refine ⟨false,rfl,?_⟩;simp only [A3,false_iff];intro h;rw [h.1 k (Aa _) hk32] at he;cases he
  | true =>
   refine ⟨b,?_,?_⟩
   ·rw [cond_true,qg9,wrs k E8];exact h1
   ·rw [h2];refine and_congr_left fun _=>?_;constructor
    ·intro h j hj;by_cases e:j=k
     ·subst e;intro _;exact he
     ·exact h j E8
    ·intro h j hj;exact h j E8
theorem qw8 {k:Int} {e:GEntry} {l:List Int} (h:l.Nodup):qsk k e (l.count k:Nat)=qgn k e (decide (k∈l)):=by
 unfold qsk qgn;congr 2;rw [h.count];cases h3:(e.state==3)
 ·by_cases hm:k∈l
  ·simp [hm]
  ·simp [hm]
 ·by_cases hm:k∈l
  ·simp [hm]
  ·simp [hm]
theorem q5l {s:GNode}:((∀ j:Nat,0≤j→j<32→qsk j (eat s.entries j) (s.order.count (j:Int):Nat)=true)∧∀ x∈s.order,0≤x∧x<32)↔GoodN s:=by
 constructor
 ·intro h;have hn:s.order.Nodup:=by
   rw [List.nodup_iff_count];intro a;by_cases ha:a∈s.order
   ·have hr:=h.2 a ha;obtain ⟨j,rfl⟩:∃ j:Nat,a=j:=⟨a.toNat,by omega⟩;have h1:=h.1 j (Ag _) E8;unfold qsk at h1;simp only [X1] at h1;have h2:=h1.2.1;cases h3:((eat s.entries j).state==3)<;>rw [h3] at h2<;>simp at h2
    ·omega
    ·omega
   ·rw [List.count_eq_zero.2 ha];omega
  exact ⟨hn,h.2,fun k hk=>by rw [← qw8 hn];exact h.1 k (Ag _) hk⟩
 ·intro h;exact ⟨fun j _ hj=>by rw [qw8 h.nodup];exact h.ent j hj,h.inr⟩
theorem q5m {fu N:Nat} {s:GNode} (h:NSz s N) (hfu:N+40≤fu):qui fu s=some (qyq s):=by
 unfold qui;obtain ⟨b,h1,h2⟩:=qsn h (show N<fu by omega) fu 32 0 E8 E8;have h1:qcz fu s fu 0=some b:=h1;rw [h1];congr 1;rw [Ap,h2,goodN_iff,q5l]
theorem qmz {s:GNode} {k:Nat} (hk:k<32) {e:GEntry} (h:e=eat s.entries k):({ s with entries:=s.entries.set k e }:GNode)=s:=by
 have:s.entries.set k e=s.entries:=by
  refine q8c fun j hj=>?_;rw [zb8 hk];by_cases e':k=j
  ·subst e';rw [if_pos rfl,h]
  ·rw [if_neg e']
 rw [this]
theorem qon {N:Nat} {s:GNode} (h:NSz s N):∀ (n m k:Nat),k+m=32→m<n→qc7 n s k=some s
 | 0,m,k,_,h=>absurd h E8
 | n+1,0,k,hk,_=>by rw [qc7,qad (qab E8),qaa]
 | n+1,m+1,k,hk,hn=>by
  have hk32:k<32:=by omega
  have hz:=h.ent k;have hb:Rep.bytes Int=8:=rfl;have hb2:Rep.bytes GOp=24:=rfl;rw [qc7,qae (qac E8),qak E8 E8,qaa,qs0 hk32,qaa,qaa,qaa];rw [qas (by rw [hb2];have:=hz.ops.2;simp only [Az];omega),qaa,qas (by rw [hb];have:=hz.first.2;simp only [Az];omega),qaa,qas (by rw [hb];have:=hz.deps.2;simp only [Az];omega),qaa,qaa]
  rw [Am,Am,Am,qc0 hk32,qaa,qaa,qmz hk32 rfl,qs0 hk32,qaa,qc0 hk32,qaa,qaa,qmz hk32 rfl,qs0 hk32,qaa,qc0 hk32,qaa,qaa,qmz hk32 rfl,qs0 hk32,qaa,qaa];rw [qas (by rw [hb];have:=hz.at_.2;simp only [Az];omega),qaa,qas (by rw [hb];have:=hz.values.2;simp only [Az];omega),qaa,qaa];rw [Am,Am,qc0 hk32,qaa,qaa,qmz hk32 rfl,qs0 hk32,qaa,qc0 hk32,qaa,qaa,qmz hk32 rfl,wrs k E8];exact qon h n m (k+1) E8 E8
theorem q0r {fu N:Nat} {s:GNode} (h:NSz s N) (hfu:40≤fu):qmp fu s=some s:=by
 unfold qmp;have hb:Rep.bytes Int=8:=rfl;rw [qas (by rw [hb];have:=h.order.2;simp only [Az];omega),qaa,qaa];exact qon h fu 32 0 E8 E8
def qrv (s:GNode) (id:Int) (ops:List GOp) (sh:Int) (k:Nat):Bool:=(k:Int) != id&&((eat s.entries k).state != 0&&qdb (eat s.entries k).ops ops sh)
def q0s (s:GNode) (id:Int) (ops:List GOp) (sh:Int):List Nat:=(List.range 32).filter (qrv s id ops sh)
def qm0 (s:GNode) (id:Int) (ops:List GOp) (sh:Int):List Int:=qa6 (q0s s id ops sh)
theorem q0t {p:Nat→Bool} {k m:Nat}:(List.range' k (m+1)).filter p=(bif p k then [k] else [])++(List.range' (k+1) m).filter p:=by
 rw [List.range'_succ,Ea];cases p k<;>rfl
theorem qm1 {s:GNode} {id:Int} {ops:List GOp} {sh:Int}:∀ (n m k:Nat) (l:List Int),k+m=32→m<n→l.length≤k→qa0 s id ops sh n l k=some (l++qa6 ((List.range' k m).filter (qrv s id ops sh)))
 | 0,m,k,l,_,h,_=>absurd h E8
 | n+1,0,k,l,hk,_,_=>by rw [qa0,qad (qab E8)];simp [qa6]
 | n+1,m+1,k,l,hk,hn,hl=>by
  have hk32:k<32:=by omega
  have hb:Rep.bytes Int=8:=rfl;have ih:=fun l hl=>qm1 (s:=s) (id:=id) (ops:=ops) (sh:=sh) n m (k+1) l E8 E8 hl;rw [qa0,qae (qac E8),qs0 hk32,qaa,qaa,qaa,q0t];simp only [qe5,qg8,wrs k E8];have no:∀ b:Bool,b=false→(bif b then (app l [(k:Int)]).bind fun l44=>qa0 s id ops sh n l44 ((k+1:Nat):Int) else qa0 s id ops sh n l ((k+1:Nat):Int))=some (l++qa6 ((List.range' (k+1) m).filter (qrv s id ops sh))):=fun b hb=>by
   rw [hb,cond_false,ih l E8]
  have yes:(app l [(k:Int)]).bind (fun l44=>qa0 s id ops sh n l44 ((k+1:Nat):Int))=some (l++qa6 (k::(List.range' (k+1) m).filter (qrv s id ops sh))):=by
   rw [qas (by rw [hb];simp only [Ai];omega),qaa,ih _ (by simp;omega)];simp [qa6]
  unfold qrv at no yes ⊢;cases h1:((k:Int) != id)
  ·exact no false rfl
  ·cases h2:((eat s.entries k).state != 0)
   ·exact no false rfl
   ·cases h3:qdb (eat s.entries k).ops ops sh
    ·exact no false rfl
    ·exact yes
theorem qqv {fu:Nat} {s:GNode} {id:Int} {ops:List GOp} {sh:Int} (hfu:40≤fu):qib fu s id ops sh=some (qm0 s id ops sh):=by
 unfold qib;have h:=qm1 (s:=s) (id:=id) (ops:=ops) (sh:=sh) fu 32 0 [] E8 E8 (by simp);have h:qa0 s id ops sh fu [] 0=some ([]++qa6 ((List.range' 0 32).filter (qrv s id ops sh))):=h;rw [h,qm0,q0s,Dp];rfl
theorem qso {s:GNode} {id:Int} {ops:List GOp} {sh:Int} (h0:∀ k,k<32→0≤(eat s.entries k).state):∀ (n m k:Nat) (l:List Int),k+m=32→m<n→l.length≤k→qcc s id ops sh n l k=some (l++qa6 ((List.range' k m).filter (qrv s id ops sh)))
 | 0,m,k,l,_,h,_=>absurd h E8
 | n+1,0,k,l,hk,_,_=>by rw [qcc,qad (qab E8)];simp [qa6]
 | n+1,m+1,k,l,hk,hn,hl=>by
  have hk32:k<32:=by omega
  have hb:Rep.bytes Int=8:=rfl;have ih:=fun l hl=>qso (s:=s) (id:=id) (ops:=ops) (sh:=sh) h0 n m (k+1) l E8 E8 hl;rw [qcc,qae (qac E8),qak E8 E8,qs0 hk32];simp only [qaa,qkh,qms,wrs k E8];rw [q0t];have hs:decide ((eat s.entries k).state>0)=((eat s.entries k).state != 0):=by
   have:=h0 k hk32;by_cases h:(eat s.entries k).state=0
   ·rw [h];rfl
   ·rw [qac E8];simp [h]
  rw [hs];have no:∀ b:Bool,b=false→(bif b then (app l [(k:Int)]).bind fun l44=>qcc s id ops sh n l44 ((k+1:Nat):Int) else qcc s id ops sh n l ((k+1:Nat):Int))=some (l++qa6 ((List.range' (k+1) m).filter (qrv s id ops sh))):=fun b hb=>by
   rw [hb,cond_false,ih l E8]
  have yes:(app l [(k:Int)]).bind (fun l44=>qcc s id ops sh n l44 ((k+1:Nat):Int))=some (l++qa6 (k::(List.range' (k+1) m).filter (qrv s id ops sh))):=by
   rw [qas (by rw [hb];simp only [Ai];omega),qaa,ih _ (by simp;omega)];simp [qa6]
  unfold qrv at no yes ⊢;cases h1:((k:Int) != id)
  ·exact no false rfl
  ·cases h2:((eat s.entries k).state != 0)
   ·exact no false rfl
   ·cases h3:qdb (eat s.entries k).ops ops sh
    ·exact no false rfl
    ·exact yes
theorem qw9 {fu:Nat} {s:GNode} {id:Int} {ops:List GOp} {sh:Int} (h0:∀ k,k<32→0≤(eat s.entries k).state) (hfu:40≤fu):qrn fu s id ops sh=some (qm0 s id ops sh):=by
 unfold qrn;have h:=qso (s:=s) (id:=id) (ops:=ops) (sh:=sh) h0 fu 32 0 [] E8 E8 (by simp);have h:qcc s id ops sh fu [] 0=some ([]++qa6 ((List.range' 0 32).filter (qrv s id ops sh))):=h;rw [h,qm0,q0s,Dp];rfl
def qoo (s:GNode):GGraph:={ known:=Vector.ofFn fun k:Fin 32=>decide ((eat s.entries k.val).state≥2),deps:=Vector.ofFn fun k:Fin 32=>(eat s.entries k.val).deps }
theorem q5n {s:GNode} {k:Nat} (hk:k<32):bat (qoo s).known k=decide ((eat s.entries k).state≥2):=by
 rw [← q4c hk];simp [qoo]
theorem qqw {s:GNode} {k:Nat} (hk:k<32):qa3 (qoo s) k=(eat s.entries k).deps:=by
 simp [qoo,qa3,hk]
theorem qxa {g:GGraph} {v:Vector (List Int) 32} {k j:Nat} {x:List Int} (hk:k<32):qa3 { g with deps:=v.set k x } j=if k=j then x else qa3 { g with deps:=v } j:=by
 unfold qa3;by_cases hj:j<32
 ·simp only [hj,dite_true,Ek]
 ·have:k≠j:=by omega
  simp [hj,this]
theorem q0u {g h:GGraph} (h1:∀ k,k<32→bat g.known k=bat h.known k) (h2:∀ k,k<32→qa3 g k=qa3 h k):g=h:=by
 obtain ⟨a,b⟩:=g;obtain ⟨c,d⟩:=h;have e1:a=c:=q73 h1;have e2:b=d:=Vector.ext fun k hk=>by
  have:=h2 k hk;simpa [qa3,hk] using this
 rw [e1,e2]
def q2t (s:GNode) (G:GGraph):Prop:=∀ k,k<32→bat G.known k=decide ((eat s.entries k).state≥2)∧qa3 G k=(eat s.entries k).deps
theorem q0v (s:GNode):q2t s (qoo s):=fun _ hk=>⟨q5n hk,qqw hk⟩
theorem qm2 {s:GNode} {G:GGraph} (hG:q2t s G):∀ (n m k:Nat) (g:GGraph),k+m=32→m<n→(∀ j,j<k→bat g.known j=bat G.known j∧qa3 g j=qa3 G j)→qcf s n g k=some G
 | 0,m,k,g,_,h,_=>absurd h E8
 | n+1,0,k,g,hk,_,hg=>by
  rw [qcf,qad (qab E8),qaa];exact congrArg some (q0u (fun j hj=>(hg j E8).1) fun j hj=>(hg j E8).2)
 | n+1,m+1,k,g,hk,hn,hg=>by
  have hk32:k<32:=by omega
  rw [qcf,qae (qac E8),qs0 hk32,qaa,qaa,qak E8 E8,qaa,qrq hk32,qaa,qc0 hk32,qaa,qaa,qaa,zcs hk32,qaa,qc0 hk32,qaa,qaa,wrs k E8];refine qm2 hG n m (k+1) _ E8 E8 fun j hj=>?_;have hj32:j<32:=by omega
  refine ⟨?_,?_⟩
  ·show bat (g.known.set k _) j=_;rw [qez hk32];by_cases e:k=j
   ·subst e;rw [if_pos rfl,(hG k hk32).1]
   ·rw [if_neg e];exact (hg j E8).1
  ·rw [qxa hk32];by_cases e:k=j
   ·subst e;rw [if_pos rfl,(hG k hk32).2]
   ·rw [if_neg e];exact (hg j E8).2
theorem qys {fu:Nat} {s:GNode} (hfu:40≤fu):qnt fu s=some (qoo s):=qm2 (q0v s) fu 32 0 _ E8 E8 fun j h=>by omega
theorem qqx {s:GNode} {G:GGraph} (hG:q2t s G):∀ (n m k:Nat) (g:GGraph),k+m=32→m<n→(∀ j,j<k→bat g.known j=bat G.known j∧qa3 g j=qa3 G j)→qea s n g k=some G
 | 0,m,k,g,_,h,_=>absurd h E8
 | n+1,0,k,g,hk,_,hg=>by
  rw [qea,qad (qab E8),qaa];exact congrArg some (q0u (fun j hj=>(hg j E8).1) fun j hj=>(hg j E8).2)
 | n+1,m+1,k,g,hk,hn,hg=>by
  have hk32:k<32:=by omega
  rw [qea,qae (qac E8),qak E8 E8,qaa,qs0 hk32,qaa,qaa,qrq hk32,qaa,qc0 hk32,qaa,qaa,qaa,qaa,qaa,zcs hk32,qaa,qc0 hk32,qaa,qaa,wrs k E8];refine qqx hG n m (k+1) _ E8 E8 fun j hj=>?_;have hj32:j<32:=by omega
  refine ⟨?_,?_⟩
  ·show bat (g.known.set k _) j=_;rw [qez hk32];by_cases e:k=j
   ·subst e;rw [if_pos rfl,(hG k hk32).1];congr 1
   ·rw [if_neg e];exact (hg j E8).1
  ·rw [qxa hk32];by_cases e:k=j
   ·subst e;rw [if_pos rfl,(hG k hk32).2]
   ·rw [if_neg e];exact (hg j E8).2
theorem q2u {fu:Nat} {s:GNode} (hfu:40≤fu):qtc fu s=some (qoo s):=qqx (q0v s) fu 32 0 _ E8 E8 fun j h=>by omega
abbrev D2 := @Bool.and_false
theorem qd4 {f:GFrame} (h:qaf f=0):(1≤f.kind∧f.kind≤5)∧(0≤f.node∧f.node<6)∧(0≤f.id∧f.id<32):=by
 unfold qaf at h;split at h
 ·cases h
 ·split at h
  ·cases h
  ·omega
theorem qar {α : Type} {n:Nat} {v:Vector α n} {j:Int} {x : α} (h0:0≤j) (h1:j<n):qc1 v j x=some (v.setIfInBounds j.toNat x):=by
 unfold qc1;rw [if_pos ⟨h0,h1⟩]
theorem qpf {n:Nat} {v:Vector Bool n} {j:Int} (h0:0≤j) (h1:j<n):qan v j=some (qav v j.toNat):=by
 have:=qeb v j.toNat E8;rw [show ((j.toNat:Nat):Int)=j from by omega] at this;exact this
theorem qyt {n:Nat} {v:Vector Int n} {j:Int} (h0:0≤j) (h1:j<n):qan v j=some (v[j.toNat]?.getD 0):=by
 unfold qan;rw [if_pos h0];have:j.toNat<n:=by omega
 simp [this]
def qko (b:Bool):Int:=bif b then 1 else 0
def qop (v:Vector Bool 6) (k:Nat):Int:=qko (qav v k)+qko (qav v (k+1))+qko (qav v (k+2))
def qgo (c:GCase):Bool:=(!qag c.ops 0||decide (qop c.told 0≥2))&&(!qag c.ops 1||decide (qop c.told 3≥2))
theorem qsp {c:GCase} {rec:Int→Option Bool} {s:Nat} (hs:s<2) {n:Nat}:qbt c s rec (n+4) 0 0=bif (qag c.ops s && !decide (qop c.told (3*s)≥2)) then some false else rec (IntKind.wrap .i64 ((s:Int)+1)):=by
 have h3:IntKind.wrap .i64 ((s:Int)*3)=(s:Int)*3:=qa2 E8 E8;have step:∀ (m:Nat) (y:Int) (k:Nat),k<3→0≤y→y≤10→qbt c s rec (m+1) y k=qbt c s rec m (y+qko (qav c.told (3*s+k))) ((k+1:Nat):Int):=by
  intro m y k hk hy hy2;have hj:IntKind.wrap .i64 ((s:Int)*3+(k:Int))=((3*s+k:Nat):Int):=by rw [qa2 E8 E8];omega
  rw [qbt,qae (qac E8),h3,hj,qak E8 E8,qaa,qeb c.told (3*s+k) E8,qaa];simp only [qmf];rw [show IntKind.wrap .i64 ((k:Int)+1)=((k+1:Nat):Int) from by rw [qa2 E8 E8];omega,qa2 E8 E8];cases qav c.told (3*s+k)
  ·simp [qko]
  ·rfl
 have h1:∀ b,0≤qko b∧qko b≤1:=fun b=>by cases b<;>decide
 have e0:=step (n+3) 0 0 E8 E8 E8;have b0:=h1 (qav c.told (3*s+0));have b1:=h1 (qav c.told (3*s+1));have e1:=step (n+2) (0+qko (qav c.told (3*s+0))) 1 E8 E8 E8;have e2:=step (n+1) (0+qko (qav c.told (3*s+0))+qko (qav c.told (3*s+1))) 2 E8 E8 E8;have e0:qbt c s rec (n+4) 0 0=_:=e0;rw [e0];have e1:qbt c s rec (n+3) _ ((0+1:Nat):Int)=_:=e1;rw [e1];have e2:qbt c s rec (n+2) _ ((1+1:Nat):Int)=_:=e2;rw [e2,qbt,qad (qab E8),qaa];have hc:qop c.told (3*s)=0+qko (qav c.told (3*s+0))+qko (qav c.told (3*s+1))+qko (qav c.told (3*s+2)):=by unfold qop;rw [D0];rfl
 rw [← hc];cases qag c.ops s
 ·rfl
 ·simp only [cond_true,Aj,qmg,qp6];by_cases h:qop c.told (3*s)≥2
  ·rw [qac h,qab E8];rfl
  ·rw [qab h,qac E8];rfl
theorem q5o {fu:Nat} {c:GCase} (hf:7≤fu):qt4 fu c=some (qgo c):=by
 obtain ⟨n,rfl⟩:∃ n,fu=n+4:=⟨fu-4,by omega⟩;unfold qt4 qgo;have e0:=qsp (c:=c) (rec:=qcb (n+4) c (n+3)) (s:=0) E8 (n:=n);have e1:=qsp (c:=c) (rec:=qcb (n+4) c (n+2)) (s:=1) E8 (n:=n);have e0:qbt c 0 (qcb (n+4) c (n+3)) (n+4) 0 0=bif (qag c.ops 0 && !decide (qop c.told 0≥2)) then some false else qcb (n+4) c (n+3) (IntKind.wrap .i64 (0+1)):=e0;have e1:qbt c 1 (qcb (n+4) c (n+2)) (n+4) 0 0=bif (qag c.ops 1 && !decide (qop c.told 3≥2)) then some false else qcb (n+4) c (n+2) (IntKind.wrap .i64 (1+1)):=e1;have w1:IntKind.wrap .i64 (0+1)=1:=by rw [qa2 E8 E8];rfl
 have w2:IntKind.wrap .i64 (1+1)=2:=by rw [qa2 E8 E8];rfl
 rw [qcb,qae (by rfl),e0];cases hA:(qag c.ops 0 && !decide (qop c.told 0≥2))
 ·rw [cond_false,w1,qcb,qae (by rfl),e1];cases hB:(qag c.ops 1 && !decide (qop c.told 3≥2))
  ·rw [cond_false,w2,qcb,qad (by rfl)];revert hA hB;cases qag c.ops 0<;>cases qag c.ops 1<;>cases decide (qop c.told 0≥2)<;>cases decide (qop c.told 3≥2)<;>simp
  ·rw [cond_true];revert hB;cases qag c.ops 0<;>cases qag c.ops 1<;>cases decide (qop c.told 0≥2)<;>cases decide (qop c.told 3≥2)<;>simp
 ·rw [cond_true];revert hA;cases qag c.ops 0<;>cases qag c.ops 1<;>cases decide (qop c.told 0≥2)<;>cases decide (qop c.told 3≥2)<;>simp
def qbh (sh:Int) (c:GCase) (k v:Int):GCase :=
 bif (decide (k<(c.ops.length:Int))&&(((idx c.ops k).map fun o=>qa4 o.key==sh).getD false && !qav c.has k.toNat)) then { c with has:=c.has.setIfInBounds k.toNat true,values:=c.values.setIfInBounds k.toNat v } else c
def qkj (sh:Int):GCase→List Int→List Int→GCase
 | c,k::at_,v::vs=>qkj sh (qbh sh c k v) at_ vs
 | c,_,_=>c
theorem qlf {sh:Int} {c:GCase} {k v:Int}:(qbh sh c k v).ops=c.ops∧(qbh sh c k v).fixed=c.fixed∧(qbh sh c k v).begun=c.begun∧(qbh sh c k v).deps=c.deps∧(qbh sh c k v).told=c.told∧(qbh sh c k v).known=c.known:=by
 unfold qbh;cases (decide (k<(c.ops.length:Int))&&(((idx c.ops k).map fun o=>qa4 o.key==sh).getD false && !qav c.has k.toNat))<;>exact ⟨rfl,rfl,rfl,rfl,rfl,rfl⟩
theorem doneL_same {sh:Int}:∀ {at_ vs:List Int} {c:GCase},(qkj sh c at_ vs).ops=c.ops∧(qkj sh c at_ vs).fixed=c.fixed∧(qkj sh c at_ vs).begun=c.begun∧(qkj sh c at_ vs).deps=c.deps∧(qkj sh c at_ vs).told=c.told∧(qkj sh c at_ vs).known=c.known
 | [],_,_=>by unfold qkj;exact ⟨rfl,rfl,rfl,rfl,rfl,rfl⟩
 | _::_,[],_=>by unfold qkj;exact ⟨rfl,rfl,rfl,rfl,rfl,rfl⟩
 | k::at_,v::vs,c=>by
  unfold qkj;have h1:=doneL_same (sh:=sh) (at_:=at_) (vs:=vs) (c:=qbh sh c k v);have h2:=qlf (sh:=sh) (c:=c) (k:=k) (v:=v);exact ⟨h1.1.trans h2.1,h1.2.1.trans h2.2.1,h1.2.2.1.trans h2.2.2.1,h1.2.2.2.1.trans h2.2.2.2.1,h1.2.2.2.2.1.trans h2.2.2.2.2.1,h1.2.2.2.2.2.trans h2.2.2.2.2.2⟩
structure AtOk (f:GFrame):Prop where
 len:f.at_.length=f.vals.length
 small:f.at_.length≤4
 mem:∀ n∈f.at_,0≤n∧n<4
theorem q2v {f:GFrame} (h:qaf f=0):AtOk f:=by
 have:=q37 h;obtain ⟨_,_,_,_,h1,h2,h3,_,_⟩:=this;exact ⟨h3.symm,h1,fun n hn=>by have:=h2 n hn;omega⟩
theorem qoq {f:GFrame} (hf:AtOk f):∀ (n m k:Nat) (c:GCase),f.at_.length=k+m→m<n→c.ops.length≤4→c.fixed=true→qa9 f n c k=some (qkj (ofZ f.node) c (f.at_.drop k) (f.vals.drop k),[],0)
 | 0,m,k,c,_,h,_,_=>absurd h E8
 | n+1,0,k,c,hk,_,_,_=>by
  rw [qa9,qad (qab E8),List.drop_of_length_le E8,qaa];rfl
 | n+1,m+1,k,c,hk,hn,hc,hfx=>by
  have hlt:k<f.at_.length:=by omega
  have hlv:k<f.vals.length:=by have:=hf.len;omega
  have ih:=fun c h1 h2=>qoq hf n m (k+1) c E8 E8 h1 h2;have hw:IntKind.wrap .i64 ((k:Int)+1)=((k+1:Nat):Int):=by have:=hf.small;rw [qa2 E8 E8];omega
  rw [qa9,qae (qac E8),qap,List.getElem?_eq_getElem hlt,qaa,qae hfx,List.drop_eq_getElem_cons hlt,List.drop_eq_getElem_cons hlv];have hx:=hf.mem f.at_[k] (List.getElem_mem _);simp only [qdz,qgj,hw,qkj];generalize f.at_[k]=x at hx;have hd:=qlf (sh:=ofZ f.node) (c:=c) (k:=x) (v:=f.vals[k]);have ihd:=ih (qbh (ofZ f.node) c x f.vals[k]) (by rw [hd.1];exact hc) (by rw [hd.2.1];exact hfx);by_cases h1:x<(c.ops.length:Int)
  ·obtain ⟨o,ho⟩:∃ o,idx c.ops x=some o:=by
    unfold idx;rw [if_pos hx.1];exact ⟨_,Xy E8⟩
   rw [qae (qac h1),ho,qaa,qaa,qaa];cases h2:(qa4 o.key==ofZ f.node)
   ·rw [← ihd];simp only [cond_false,qbh,ho,Ac,Ae,h2,B1,D2]
   ·rw [qae (by rfl),qak hx.1 hx.2,qaa,qpf hx.1 hx.2,qaa];cases h3:qav c.has x.toNat
    ·rw [← ihd];have e:qbh (ofZ f.node) c x f.vals[k]={ c with has:=c.has.setIfInBounds x.toNat true,values:=c.values.setIfInBounds x.toNat f.vals[k] }:=by
      simp only [qbh,ho,Ac,Ae,h2,h3,qac h1,Ah,Aj,cond_true]
     rw [e];simp only [Ah,cond_true];rw [qap,Xy hlv,qaa,qaa,qar hx.1 hx.2,qaa,qaa,qaa,qyt hx.1 hx.2,qaa,qar hx.1 hx.2,qaa];rfl
    ·rw [← ihd];simp only [Ab,cond_false,qbh,ho,Ac,Ae,h2,h3,D2]
  ·rw [qad (qab h1),← ihd];simp only [cond_false,qbh,qab h1,B1]
theorem qor {f:GFrame} (hf:AtOk f):∀ (n m k:Nat) (c:GCase),f.at_.length=k+m→m<n→c.fixed=false→qa9 f n c k=some (c,[],0)
 | 0,m,k,c,_,h,_=>absurd h E8
 | n+1,0,k,c,hk,_,_=>by rw [qa9,qad (qab E8),qaa]
 | n+1,m+1,k,c,hk,hn,hfx=>by
  have hlt:k<f.at_.length:=by omega
  have ih:=qor hf n m (k+1) c E8 E8 hfx;have hw:IntKind.wrap .i64 ((k:Int)+1)=((k+1:Nat):Int):=by have:=hf.small;rw [qa2 E8 E8];omega
  rw [qa9,qae (qac E8),qap,Xy hlt,qaa,qad hfx];simp only [qdz,qgj,hw,cond_false];exact ih
def qlg (c:GCase) (f:GFrame):GCase:={ c with told:=c.told.setIfInBounds f.node.toNat true,deps:=qlq c.deps f.deps }
def q2w (c:GCase):GCase:={ c with fixed:=qgo c }
def qos (c:GCase) (id:Int) (f:GFrame):GCase × List GFrame × Int :=
 bif f.kind==2 then
  bif c.fixed||(qav c.told f.node.toNat || !qag c.ops (ofZ f.node)) then (c,[],0)
  else (q2w (qlg c f),(bif (q2w (qlg c f)).fixed then qjj (q2w (qlg c f)) id else []),0)
 else bif f.kind==4 then (bif c.fixed then ({ c with known:=c.known.setIfInBounds f.node.toNat true },[],0) else (c,[],0))
 else bif f.kind==5 then (bif c.fixed then (qkj (ofZ f.node) c f.at_ f.vals,[],0) else (c,[],0))
 else (c,[],3)
def qvy (c:GCase) (id:Int) (f:GFrame):Bool:=qdm c&&(c.begun&&(f.id==id && !qco c.deps id))
def qbz (c:GCase) (id:Int) (f:GFrame):GCase × List GFrame × Int :=
 bif qvy c id f then (bif qaf f==0 then qos c id f else (c,[],qaf f)) else (c,[],2)
theorem q0w {fu:Nat} {c:GCase} {id:Int} {f:GFrame} (hf:7≤fu):qmh fu c id f=some (qbz c id f):=by
 unfold qmh qbz qvy qey;rw [qmw];simp only [qaa];cases hg:qdm c
 ·rfl
 ·cases hb:c.begun
  ·rfl
  ·by_cases hid:f.id=id
   ·have e1:(f.id != id)=false:=by simp [hid]
    have e2:(f.id==id)=true:=by simp [hid]
    rw [e1,e2];cases hh:qco c.deps id
    ·simp only [Ab,Ah,E4,cond_true,cond_false,qk9,qaa];by_cases hz:qaf f=0
     ·have hin:=qd4 hz;have hat:=q2v hz;have hl:=qld hg hb;have e3:(qaf f != 0)=false:=by simp [hz]
      have e4:(qaf f==0)=true:=by simp [hz]
      rw [e3,e4];simp only [cond_false,cond_true,qos];cases hk2:(f.kind==2)
      ·simp only [cond_false];cases hk4:(f.kind==4)
       ·simp only [cond_false];cases hk5:(f.kind==5)
        ·rfl
        ·simp only [cond_true];cases hfx:c.fixed
         ·exact qor hat fu f.at_.length 0 c E8 (by have:=hat.small;omega) hfx
         ·exact qoq hat fu f.at_.length 0 c E8 (by have:=hat.small;omega) hl hfx
       ·simp only [cond_true];cases hfx:c.fixed
        ·rfl
        ·simp only [cond_true];rw [qak hin.2.1.1 hin.2.1.2,qaa,qpf hin.2.1.1 hin.2.1.2,qaa,qar hin.2.1.1 hin.2.1.2,qaa];rfl
      ·simp only [cond_true];cases hfx:c.fixed
       ·simp only [cond_false,A9];rw [qak hin.2.1.1 hin.2.1.2,qaa,qpf hin.2.1.1 hin.2.1.2,qaa];cases ht:qav c.told f.node.toNat
        ·simp only [cond_false,A9,qaa,qgi];cases hto:qag c.ops (ofZ f.node)
         ·rfl
         ·simp only [Ab,cond_false,qk7];rw [qak hin.2.1.1 hin.2.1.2,qaa,qpf hin.2.1.1 hin.2.1.2,qaa,qar hin.2.1.1 hin.2.1.2,qaa,qaa,qaa,qaa,q5o hf,qaa,qaa];have e5:({ c with told:=c.told.setIfInBounds f.node.toNat true,deps:=qlq c.deps f.deps,fixed:=qgo (qlg c f) }:GCase)=q2w (qlg c f):=rfl;have e6:(q2w (qlg c f)).fixed=qgo (qlg c f):=rfl;have ha:=qu0 (c:=q2w (qlg c f)) (id:=id) hf;cases he:qgo (qlg c f)
          ·rw [he] at e5 e6;rw [e6];have he':qgo { c with told:=c.told.setIfInBounds f.node.toNat true,deps:=qlq c.deps f.deps }=false:=he;rw [he'];simp only [Ah,cond_true,cond_false,qaa];rw [← e5]
          ·rw [he] at e5 e6;rw [e6];have he':qgo { c with told:=c.told.setIfInBounds f.node.toNat true,deps:=qlq c.deps f.deps }=true:=he;rw [he'];simp only [Ab,cond_true,cond_false,qaa];rw [← e5] at ha ⊢;rw [ha];rfl
        ·rfl
       ·rfl
     ·have e3:(qaf f != 0)=true:=by simp [hz]
      have e4:(qaf f==0)=false:=by simp [hz]
      rw [e3,e4];rfl
    ·rfl
   ·have e1:(f.id != id)=true:=by simp [hid]
    have e2:(f.id==id)=false:=by simp [hid]
    rw [e1,e2];rfl
theorem q0x {c:GCase} {id:Int} {f:GFrame}:(qos c id f).1.ops=c.ops∧(qos c id f).2.1.length≤6∧∀ x∈(qos c id f).2.1,x.ops.length≤4:=by
 unfold qos;cases (f.kind==2)
 ·cases (f.kind==4)
  ·cases (f.kind==5)
   ·exact ⟨rfl,Ag _,by simp⟩
   ·cases c.fixed
    ·exact ⟨rfl,Ag _,by simp⟩
    ·exact ⟨doneL_same.1,Ag _,by simp⟩
  ·cases c.fixed
   ·exact ⟨rfl,Ag _,by simp⟩
   ·exact ⟨rfl,Ag _,by simp⟩
 ·cases (c.fixed||(qav c.told f.node.toNat || !qag c.ops (ofZ f.node)))
  ·cases (q2w (qlg c f)).fixed
   ·exact ⟨rfl,Ag _,by simp⟩
   ·exact ⟨rfl,againC_small.1,againC_small.2⟩
  ·exact ⟨rfl,Ag _,by simp⟩
theorem qu1 {c:GCase} {id:Int} {f:GFrame}:(qbz c id f).1.ops=c.ops∧(qbz c id f).2.1.length≤6∧∀ x∈(qbz c id f).2.1,x.ops.length≤4:=by
 unfold qbz;cases qvy c id f
 ·exact ⟨rfl,Ag _,by simp⟩
 ·cases (qaf f==0)
  ·exact ⟨rfl,Ag _,by simp⟩
  ·exact q0x
abbrev A4 := @Vector.setIfInBounds_setIfInBounds
def vat (v:Vector Int 8) (k:Nat):Int:=v[k]?.getD 0
theorem zca {v:Vector Int 8} {j:Int} (h0:0≤j) (h1:j<8):qan v j=some (vat v j.toNat):=qyt h0 h1
theorem zcb {v:Vector Int 8} {k j:Nat} {x:Int} (hk:k<8):vat (v.setIfInBounds k x) j=if k=j then x else vat v j:=by
 unfold vat;rw [Vector.getElem?_setIfInBounds];by_cases e:k=j
 ·rw [if_pos e,if_pos e,if_pos hk];rfl
 ·rw [if_neg e,if_neg e]
theorem qdn {v:Vector GEntry 32} {k j:Nat} {x:GEntry} (hk:k<32):eat (v.setIfInBounds k x) j=if k=j then x else eat v j:=by
 unfold eat;rw [Vector.getElem?_setIfInBounds];by_cases e:k=j
 ·rw [if_pos e,if_pos e,if_pos hk];rfl
 ·rw [if_neg e,if_neg e]
theorem zcu {v:Vector GEntry 32} {k:Nat} {x:GEntry} (hk:k<32):qc1 v (k:Int) x=some (v.setIfInBounds k x):=qar E8 E8
def qgp (sh:Int):Nat→List GOp→Vector Int 8→List Int→List Int→Vector Int 8 × List Int × List Int
 | _,[],v,a,b=>(v,a,b)
 | i,o::t,v,a,b=>bif qa4 o.key==sh then qgp sh (i+1) t (v.setIfInBounds o.key.toNat (doZ (vat v o.key.toNat) o)) (a++[(i:Int)]) (b++[doZ (vat v o.key.toNat) o]) else qgp sh (i+1) t v a b
def qhj (e:GEntry) (a b:List Int):GEntry:={ e with state:=3,at_:=a,values:=b }
def qu2 (s:GNode) (n:Nat) (v:Vector Int 8) (a b:List Int):GNode:={ entries:=s.entries.setIfInBounds n (qhj (eat s.entries n) a b),order:=s.order,values:=v }
def zcc (s:GNode) (n:Nat) (sh:Int):GNode :=
 { entries:=s.entries.setIfInBounds n (qhj (eat s.entries n) (qgp sh 0 (eat s.entries n).ops s.values [] []).2.1 (qgp sh 0 (eat s.entries n).ops s.values [] []).2.2),order:=s.order++[(n:Int)],values:=(qgp sh 0 (eat s.entries n).ops s.values [] []).1 }
theorem q4d {s:GNode} {n:Nat} {v:Vector Int 8} {a b a' b':List Int} {e:GEntry} (he:e=qhj (eat s.entries n) a' b'):({ entries:=(qu2 s n v a b).entries.setIfInBounds n e,order:=(qu2 s n v a b).order,values:=(qu2 s n v a b).values }:GNode)=qu2 s n v a' b':=by
 unfold qu2;simp only [A4,he]
theorem zcd {s:GNode} {n:Nat} {v:Vector Int 8} {a b a':List Int} :
 ({ entries:=(qu2 s n v a b).entries.setIfInBounds n { state:=(qhj (eat s.entries n) a b).state,ops:=(qhj (eat s.entries n) a b).ops,first:=(qhj (eat s.entries n) a b).first,deps:=(qhj (eat s.entries n) a b).deps,at_:=a',values:=(qhj (eat s.entries n) a b).values },order:=(qu2 s n v a b).order,values:=v }:GNode)=qu2 s n v a' b:=q4d rfl
theorem zce {s:GNode} {n:Nat} {v:Vector Int 8} {a b b':List Int} :
 ({ entries:=(qu2 s n v a b).entries.setIfInBounds n { state:=(qhj (eat s.entries n) a b).state,ops:=(qhj (eat s.entries n) a b).ops,first:=(qhj (eat s.entries n) a b).first,deps:=(qhj (eat s.entries n) a b).deps,at_:=(qhj (eat s.entries n) a b).at_,values:=b' },order:=(qu2 s n v a b).order,values:=(qu2 s n v a b).values }:GNode)=qu2 s n v a b':=q4d rfl
theorem q4e {s:GNode} {n:Nat} (hn:n<32) {v:Vector Int 8} {a b:List Int}:eat (qu2 s n v a b).entries n=qhj (eat s.entries n) a b:=by
 unfold qu2;rw [qdn hn,if_pos rfl]
def KeyOk (l:List GOp):Prop:=∀ o∈l,0≤o.key∧o.key<8
theorem KeyOk.of {l:List GOp} (h:qaj l=true):KeyOk l:=fun o ho=>by have:=qud h o ho;omega
theorem qqy {s:GNode} {n:Nat} (hn:n<32) {sh:Int} {e0:GEntry} (he:e0=qhj (eat s.entries n) [] []) (hk:KeyOk (eat s.entries n).ops) (hl:(eat s.entries n).ops.length≤4) (ho:s.order.length≤1000):∀ (q m k:Nat) (v:Vector Int 8) (a b:List Int),(eat s.entries n).ops.length=k+m→m<q→a.length≤k→b.length=a.length →
 qcw n sh e0 q (qu2 s n v a b) k=some { qu2 s n (qgp sh k ((eat s.entries n).ops.drop k) v a b).1 (qgp sh k ((eat s.entries n).ops.drop k) v a b).2.1 (qgp sh k ((eat s.entries n).ops.drop k) v a b).2.2 with order:=s.order++[(n:Int)] }
 | 0,m,k,v,a,b,_,h,_,_=>absurd h E8
 | q+1,0,k,v,a,b,hkm,_,_,_=>by
  have hb:Rep.bytes Int=8:=rfl;have hord:(qu2 s n v a b).order=s.order:=rfl;have e1:e0.ops=(eat s.entries n).ops:=by rw [he];rfl
  rw [qcw,e1,qad (qab E8),Br E8,qas (by rw [hb,hord];simp only [Ai];omega)];rfl
 | q+1,m+1,k,v,a,b,hkm,hq,ha,hbl=>by
  have hb:Rep.bytes Int=8:=rfl;have hlt:k<(eat s.entries n).ops.length:=by omega
  have hx:(eat s.entries n).ops[k]? = some (eat s.entries n).ops[k]:=Xy hlt;have hkey:=hk _ (At hlt);have e0:e0.ops=(eat s.entries n).ops:=by rw [he];rfl
  have ih:=fun v a b ha hb=>qqy hn (sh:=sh) he hk hl ho q m (k+1) v a b E8 E8 ha hb;rw [qcw,e0,qae (qac E8),qap,hx,qaa,qaa,qaa,X4 hlt];simp only [qnu,qj8,wrs k E8,qgp];generalize (eat s.entries n).ops[k]=o at hkey;cases h1:(qa4 o.key==sh)
  ·rw [cond_false,cond_false,ih v a b E8 hbl]
  ·have hv:(qu2 s n v a b).values=v:=rfl;rw [cond_true,cond_true,qak hkey.1 hkey.2,qaa,hv,zca hkey.1 hkey.2,qaa,qaa,qaa,qaa,qar hkey.1 hkey.2,qaa,qaa];have hm:({ entries:=(qu2 s n v a b).entries,order:=(qu2 s n v a b).order,values:=v.setIfInBounds o.key.toNat (doZ (vat v o.key.toNat) o) }:GNode)=qu2 s n (v.setIfInBounds o.key.toNat (doZ (vat v o.key.toNat) o)) a b:=rfl;rw [hm];generalize hv2:v.setIfInBounds o.key.toNat (doZ (vat v o.key.toNat) o)=v2;have hvv:vat v2 o.key.toNat=doZ (vat v o.key.toNat) o:=by rw [← hv2,zcb E8,if_pos rfl]
   have hv':(qu2 s n v2 a b).values=v2:=rfl;rw [qs0 hn,qaa,qaa,qaa,hv',zca hkey.1 hkey.2,qaa,q4e hn,hvv];have e1:(qhj (eat s.entries n) a b).at_=a:=rfl;have e2:(qhj (eat s.entries n) a b).values=b:=rfl;rw [e1,e2,qas (by rw [hb];simp only [Ai];omega),qaa,qas (by rw [hb];simp only [Ai];omega),qaa,qaa,zcu hn,qaa,qaa];rw [zcd,qs0 hn,qaa,q4e hn,zcu hn,qaa,qaa,zce];exact ih v2 _ _ (by simp;omega) (by simp [hbl])
theorem q2x {fu:Nat} {s:GNode} {n:Nat} (hn:n<32) {sh:Int} (hk:KeyOk (eat s.entries n).ops) (hl:(eat s.entries n).ops.length≤4) (ho:s.order.length≤1000) (hfu:5≤fu):qp1 fu s n sh=some (zcc s n sh):=by
 unfold qp1;have h:=qqy hn (sh:=sh) (e0:=qhj (eat s.entries n) [] []) rfl hk hl ho fu (eat s.entries n).ops.length 0 s.values [] [] E8 E8 (by simp) rfl;have h:qcw n sh (qhj (eat s.entries n) [] []) fu (qu2 s n s.values [] []) 0=some (zcc s n sh):=h;have e1:∀ (x:GEntry),({ s with entries:=s.entries.setIfInBounds n x }:GNode).entries=s.entries.setIfInBounds n x:=fun _=>rfl;rw [qak E8 E8,qaa,qs0 hn,qaa,zcu hn,qaa,qaa];rw [e1,qs0 hn,qaa,qdn hn,if_pos rfl,zcu hn,qaa,qaa];simp only [A4];rw [qs0 hn,qaa,qdn hn,if_pos rfl,zcu hn,qaa,qaa];simp only [A4];rw [qs0 hn,qaa,qdn hn,if_pos rfl];rw [← h];rfl
theorem qlw {s:GNode} {n:Nat} (hn:n<32) {sh:Int} {e0 e:GEntry} (he:e0=qhj e [] []) (hk:KeyOk e.ops) (hl:e.ops.length≤4) (ho:s.order.length≤1000):∀ (q m k:Nat) (v:Vector Int 8) (a b:List Int),e.ops.length=k+m→m<q→a.length≤k→b.length=a.length →
 qbq n sh e0 q (qhj e a b) { s with values:=v } k=some { entries:=s.entries.setIfInBounds n (qhj e (qgp sh k (e.ops.drop k) v a b).2.1 (qgp sh k (e.ops.drop k) v a b).2.2),order:=s.order++[(n:Int)],values:=(qgp sh k (e.ops.drop k) v a b).1 }
 | 0,m,k,v,a,b,_,h,_,_=>absurd h E8
 | q+1,0,k,v,a,b,hkm,_,_,_=>by
  have hb:Rep.bytes Int=8:=rfl;have e1:e0.ops=e.ops:=by rw [he];rfl
  rw [qbq,e1,qad (qab E8),Br E8,qak E8 E8,qaa,qs0 hn,qaa,zcu hn,qaa,qaa,qas (by rw [hb];simp only [Ai];omega)];rfl
 | q+1,m+1,k,v,a,b,hkm,hq,ha,hbl=>by
  have hb:Rep.bytes Int=8:=rfl;have e1:e0.ops=e.ops:=by rw [he];rfl
  have hlt:k<e.ops.length:=by omega
  have hx:e.ops[k]? = some e.ops[k]:=Xy hlt;have hkey:=hk _ (At hlt);have ih:=fun v a b ha hb=>qlw hn (sh:=sh) he hk hl ho q m (k+1) v a b E8 E8 ha hb;rw [qbq,e1,qae (qac E8),qap,hx,qaa,qaa,qaa,X4 hlt];simp only [qh3,qfs,wrs k E8,qgp];generalize e.ops[k]=o at hkey;have hne:(qa4 o.key != sh) = !(qa4 o.key==sh):=rfl;rw [hne];cases h1:(qa4 o.key==sh)
  ·rw [Ah,cond_true,cond_false,ih v a b E8 hbl]
  ·rw [Ab,cond_false,cond_true,qak hkey.1 hkey.2,qaa,zca hkey.1 hkey.2,qaa,qaa,qaa,qaa,qar hkey.1 hkey.2,qaa,qaa];have e2:(qhj e a b).at_=a:=rfl;have e3:(qhj e a b).values=b:=rfl;rw [e2,e3,qas (by rw [hb];simp only [Ai];omega),qaa,qas (by rw [hb];simp only [Ai];omega),qaa,qaa,qaa];exact ih _ _ _ (by simp;omega) (by simp [hbl])
theorem qvz {fu:Nat} {s:GNode} {n:Nat} (hn:n<32) {sh:Int} (hk:KeyOk (eat s.entries n).ops) (hl:(eat s.entries n).ops.length≤4) (ho:s.order.length≤1000) (hfu:5≤fu):qi3 fu s n sh=some (zcc s n sh):=by
 unfold qi3;rw [qak E8 E8,qaa,qs0 hn,qaa,qaa,qaa,qaa,qaa];have h:=qlw (s:=s) hn (sh:=sh) (e:=eat s.entries n) rfl hk hl ho fu (eat s.entries n).ops.length 0 s.values [] [] E8 E8 (by simp) rfl;exact h
theorem q8e {m:Int}:∀ {l:List Int} {b b':Int},b'≤b→qyp m b l=true→qyp m b' l=true
 | [],_,_,_,_=>rfl
 | x::t,b,b',h,ha=>by
  unfold qyp at *;simp only [Bool.and_eq_true,decide_eq_true_eq] at *;exact ⟨⟨by omega,ha.1.2⟩,ha.2⟩
theorem qyu {sh:Int}:∀ (l:List GOp) (i:Nat) (v:Vector Int 8) (a b:List Int),∃ L,(qgp sh i l v a b).2.1=a++L∧qyp ((i+l.length:Nat):Int) ((i:Int)-1) L=true∧(qgp sh i l v a b).2.2.length=b.length+L.length
 | [],i,v,a,b=>⟨[],by simp [qgp],rfl,by simp [qgp]⟩
 | o::t,i,v,a,b=>by
  unfold qgp;cases h:(qa4 o.key==sh)
  ·obtain ⟨L,h1,h2,h3⟩:=qyu t (i+1) v a b;rw [cond_false];refine ⟨L,h1,?_,h3⟩;rw [show i+(o::t).length=i+1+t.length from by simp;omega];exact q8e E8 h2
  ·obtain ⟨L,h1,h2,h3⟩:=qyu t (i+1) (v.setIfInBounds o.key.toNat (doZ (vat v o.key.toNat) o)) (a++[(i:Int)]) (b++[doZ (vat v o.key.toNat) o]);rw [cond_true];refine ⟨(i:Int)::L,by rw [h1];simp,?_,by rw [h3];simp;omega⟩;rw [show i+(o::t).length=i+1+t.length from by simp;omega];unfold qyp;simp only [X1,decide_eq_true_eq];refine ⟨⟨by omega,by omega⟩,?_⟩;rw [show (i:Int)=((i+1:Nat):Int)-1 from by omega];exact h2
theorem entryOk_iff {k:Int} {e:GEntry} {t:Bool}:qgn k e t=true↔(0≤e.state∧e.state≤3)∧(e.state=3↔t=true)∧qsj k e=true:=by
 unfold qgn;simp only [X1,decide_eq_true_eq];refine and_congr_right fun _=>and_congr_left fun _=>?_;cases t<;>simp
structure Body (k:Int) (e:GEntry):Prop where
 ops:qaj e.ops=true
 first:qam e.first=true
 deps:qam e.deps=true
 nfirst:qco e.first k=false
 ndeps:qco e.deps k=false
 asked:e.state=1→e.deps=[]
 undone:e.state≠3→e.at_=[]
 same:e.at_.length=e.values.length
 up:qyp e.ops.length (-1) e.at_=true
theorem body_iff {k:Int} {e:GEntry}:qw7 k e=true↔Body k e:=by
 unfold qw7;simp only [X1,Dm];constructor
 ·rintro ⟨h1,h2,h3,h4,h5,h6,h7,h8,h9⟩;refine ⟨h1,h2,h3,h4,h5,fun h=>?_,fun h=>?_,?_,h9⟩
  ·rw [h] at h6;simpa using h6
  ·have:(e.state != 3)=true:=by simpa using h
   rw [this] at h7;simpa using h7
  ·simp only [bne_eq_false_iff_eq] at h8;omega
 ·rintro ⟨h1,h2,h3,h4,h5,h6,h7,h8,h9⟩;refine ⟨h1,h2,h3,h4,h5,?_,?_,?_,h9⟩
  ·by_cases h:e.state=1
   ·rw [h6 h];simp
   ·simp [h]
  ·by_cases h:e.state=3
   ·rw [h];rfl
   ·rw [h7 h];simp
  ·simp only [bne_eq_false_iff_eq];omega
theorem GoodN.body {s:GNode} (h:GoodN s) {k:Nat} (hk:k<32) (h0:(eat s.entries k).state≠0):Body k (eat s.entries k):=by
 have:=(entryOk_iff.1 (h.ent k hk)).2.2;unfold qsj at this;rw [qad (by simpa using h0)] at this;exact body_iff.1 this
theorem GoodN.state {s:GNode} (h:GoodN s) {k:Nat} (hk:k<32):0≤(eat s.entries k).state∧(eat s.entries k).state≤3:=(entryOk_iff.1 (h.ent k hk)).1
theorem GoodN.done {s:GNode} (h:GoodN s) {k:Nat} (hk:k<32):(eat s.entries k).state=3↔(k:Int)∈s.order:=by
 rw [(entryOk_iff.1 (h.ent k hk)).2.1];simp
theorem emptyE_iff {e:GEntry}:qqu e=true↔e.ops=[]∧e.first=[]∧e.deps=[]∧e.at_=[]∧e.values=[]:=by
 unfold qqu;simp []
theorem GoodN.empty {s:GNode} (h:GoodN s) {k:Nat} (hk:k<32) (h0:(eat s.entries k).state=0):(eat s.entries k).ops=[]∧(eat s.entries k).first=[]∧(eat s.entries k).deps=[]∧(eat s.entries k).at_=[]∧(eat s.entries k).values=[]:=by
 have:=(entryOk_iff.1 (h.ent k hk)).2.2;unfold qsj at this;rw [qae (by simpa using h0)] at this;exact emptyE_iff.1 this
theorem qyv {l:List Int} (h:l.Nodup) (hr:∀ m∈l,0≤m∧m<32):l.length≤32:=by
 have h1:(l.map Int.toNat).Nodup:=by
  refine List.pairwise_map.2 (h.imp_of_mem fun {a b} ha hb hab=>?_);have:=hr a ha;have:=hr b hb;omega
 have:=qmv 32 (l.map Int.toNat) h1 fun x hx=>by
  obtain ⟨y,hy,rfl⟩:=Ee.1 hx;have:=hr y hy;omega
 simpa using this
theorem GoodN.len {s:GNode} (h:GoodN s):s.order.length≤32:=qyv h.nodup h.inr
theorem GoodN.set {s t:GNode} (h:GoodN s) {n:Nat} (hn:n<32) {e:GEntry} (he:t.entries=s.entries.setIfInBounds n e) (ho:t.order=s.order) (h3:(eat s.entries n).state≠3) (h1:1≤e.state∧e.state≤2) (hb:Body n e):GoodN t:=by
 refine ⟨by rw [ho];exact h.nodup,by rw [ho];exact h.inr,fun k hk=>?_⟩;rw [he,ho,qdn hn];by_cases e':n=k
 ·subst e';rw [if_pos rfl];refine entryOk_iff.2 ⟨by omega,⟨fun h=>by omega,fun hm=>?_⟩,?_⟩
  ·exact absurd ((h.done hn).2 (by simpa using hm)) h3
  ·unfold qsj;rw [qad (by simp;omega)];exact body_iff.2 hb
 ·rw [if_neg e'];exact h.ent k hk
theorem GoodN.one {s:GNode} (h:GoodN s) {n:Nat} (hn:n<32) (h2:(eat s.entries n).state=2) (sh:Int):GoodN (zcc s n sh):=by
 have hb:=h.body hn E8;have hno:(n:Int)∉s.order:=fun hm=>by have:=(h.done hn).2 hm;omega
 refine ⟨?_,?_,fun k hk=>?_⟩
 ·refine Dn.2 ⟨h.nodup,by simp,fun a ha b hb=>?_⟩;rw [X8.1 hb];rintro rfl;exact hno ha
 ·intro m hm;rcases Ad.1 hm with hm | hm
  ·exact h.inr m hm
  ·rw [X8.1 hm];omega
 ·show qgn k (eat (s.entries.setIfInBounds n _) k) (decide ((k:Int)∈s.order++[(n:Int)]))=true;rw [qdn hn];by_cases e':n=k
  ·subst e';rw [if_pos rfl];obtain ⟨L,a1,a2,a3⟩:=qyu (sh:=sh) (eat s.entries n).ops 0 s.values [] [];refine entryOk_iff.2 ⟨(show (0:Int)≤3∧(3:Int)≤3 by decide),⟨fun _=>by simp,fun _=>rfl⟩,?_⟩;show (bif false then _ else qw7 _ _)=true;rw [cond_false];refine body_iff.2 ⟨hb.ops,hb.first,hb.deps,hb.nfirst,hb.ndeps,fun h=>?_,fun h=>absurd rfl h,?_,?_⟩
   ·have:(3:Int)=1:=h;omega
   ·show (qgp sh 0 (eat s.entries n).ops s.values [] []).2.1.length=(qgp sh 0 (eat s.entries n).ops s.values [] []).2.2.length;rw [a1,a3];simp
   ·show qyp _ (-1) (qgp sh 0 _ s.values [] []).2.1=true;rw [a1,Am];rw [B4] at a2;exact a2
  ·rw [if_neg e'];have:decide ((k:Int)∈s.order++[(n:Int)])=decide ((k:Int)∈s.order):=by
    apply decide_eq_decide.2;simp only [Ad,X8];constructor
    ·rintro (h | h)
     ·exact h
     ·omega
    ·exact .inl
   rw [this];exact h.ent k hk
open Go.RowKit Go.ChangeShapes Go.WideShapes Go.ChangeAt Go.Deep
section
variable {H:Type} {enc:TypeId × Value→H} {P:Program} {w:World}
theorem qot {P:Program} {e:TypeId}:∀ {ds:List (DataW H)} {d:DataW H},d∈ds→∀ n∈d.weights P e,n∈DataW.weightsAll P e ds
 | d0::ds,d,hd,n,hn=>by
  simp only [DataW.weightsAll,List.mem_append];rcases List.mem_cons.1 hd with h | h
  ·subst h;exact .inl hn
  ·exact .inr (qot h n hn)
end
theorem repL.fits {α : Type} [Rep α] {M:Mm} {v:Value} {l:List α} (h:repL M v l):l.length*Rep.bytes α ≤ 140737488351232:=by
 obtain ⟨_,_,_,_,_,h,_⟩:=h;exact h
def wholeM (w:World):Mm:=fun b=>match w.heap[b]? with | some (.cells arr _ _)=>some arr.toList | _=>none
theorem wholeM_agree (w:World):Agree (wholeM w) w:=fun b p hb=>by
 unfold wholeM at hb;split at hb
 ·rename_i arr t fr hh;cases hb;exact ⟨arr,t,fr,hh,Bv _⟩
 ·cases hb
theorem qu3 {H:Type} {P:Program} {ts:List TypeId} {ds:List (DataW H)} {j:Nat} {t:TypeId} {d:DataW H} (ht:ts[j]? = some t) (hd:ds[j]? = some d):∀ n∈d.weights P t,n∈DataW.weightsEach P ts ds:=DataW.weights_mem_each ht hd
def Opn (P:Program) (t:TypeId) (α : Type) [Rep α]:Prop :=
 P.cellsOf t=Rep.k α ∧ ∀ (H:Type) (enc:TypeId × Value→H) (w:World) (fuel:Nat) (cs:List Value) (d:DataW H) (p:List MemPlace),
  DataW.trod enc P w 0 (fun _=>true) true fuel t cs=some (d,p)→(∀ n∈d.weights P t,n≤reachBytes)→∃ x : α,rep (wholeM w) cs x
section
variable {P:Program} {t e:TypeId} {α : Type} [Rep α]
theorem zcf (ht:P.underlying t=some (.int .i64)) (hc:P.cellsOf t=1):Opn P t Int:=⟨hc,fun H enc w fuel cs d p h hw=>by
 obtain ⟨n,rfl,_,_⟩:=DataW.trod_int ht h
 exact ⟨n,rfl⟩⟩
theorem zav (a:Addr) (i:Nat):(a.add i).block=a.block∧(a.add i).off=a.off+i:=by
 unfold Addr.add;split
 ·rename_i h;exact ⟨rfl,by rw [show i=0 by simpa using h];rfl⟩
 ·exact ⟨rfl,rfl⟩
theorem q2y {w:World} {a:Addr} {k:Nat} {cs:List Value} (h:w.cells? 0 a k=some cs) (hk:0<k) :
 a.spot=none∧∃ q,wholeM w a.block=some q∧a.off+k≤q.length∧sl q a.off k=cs:=by
 obtain ⟨_,hl,hat⟩:=World.cells?_some h;have h0:=hat 0 hk;rw [Xy E8] at h0;have hsp:a.spot=none:=by
  have:=World.cell?_spot h0;simpa [Addr.add] using this
 refine ⟨hsp,?_⟩;have hc:∀ i,i<k→∃ arr tt fr,w.heap[a.block]? = some (.cells arr tt fr)∧arr[a.off+i]? = cs[i]? := by
  intro i hi;have hi':=hat i hi;rw [Xy E8] at hi' ⊢;unfold World.cell? at hi';split at hi'
  ·rename_i arr tt fr hh;rw [(zav a i).1] at hh;refine ⟨arr,tt,fr,hh,?_⟩;split at hi'
   ·cases hi'
   ·rw [(zav a i).2] at hi';exact hi'
  ·cases hi'
 obtain ⟨arr,tt,fr,hh,_⟩:=hc 0 hk;have hall:∀ i,i<k→arr[a.off+i]? = cs[i]? := by
  intro i hi;obtain ⟨arr',tt',fr',hh',he⟩:=hc i hi;rw [hh] at hh';cases hh';exact he
 have hlen:a.off+k≤arr.size:=by
  have:=hall (k-1) E8;rw [Xy E8] at this;have:=(Bh.1 this).1;omega
 refine ⟨arr.toList,by simp [wholeM,hh],by simpa using hlen,?_⟩;refine qo0 fun j=>?_;by_cases hj:j<k
 ·rw [qg1 _ _ _ _ hj];simpa using hall j hj
 ·rw [qby _ _ _ _ E8,Bl E8]
theorem q0y (ht:P.underlying t=some (.slice e)) (hc:P.cellsOf t=1) (he:Opn P e α) (hk:0<Rep.k α) (hby:P.bytesOf e=Rep.bytes α):Opn P t (List α):=⟨hc,fun H enc w fuel cs d p h hw=>by
 rcases open_slice ht h with ⟨rfl,hx⟩ | ⟨a,len,cap,m,n,D,Pl,rfl,_,hl,hm,hmm,hx,hel⟩
 ·exact ⟨[],_,rfl,qs2 _⟩
 ·simp only [if_true] at hmm
  subst hmm
  simp only [Prod.mk.injEq] at hx
  rw [hx.1] at hw
  simp only [DataW.weights,ht,hby,List.mem_cons,List.mem_append,List.length_map,List.length_range] at hw
  have hw1:=hw _ (.inl rfl)
  unfold reachBytes at hw1
  have hone:∀ i,i<len→∃ x : α,∃ b off q,a.add (i*Rep.k α)=⟨b,off,none⟩∧wholeM w b=some q∧off+Rep.k α ≤ q.length∧rep (wholeM w) (sl q off (Rep.k α)) x:=by
   intro i him
   obtain ⟨cs',h1,h2⟩:=hel i E8
   rw [he.1] at h1
   obtain ⟨hsp,q,hq,hlq,hsl⟩:=q2y h1 hk
   obtain ⟨x,hxr⟩:=he.2 H enc w n cs' (D i) (Pl i) h2 fun nn hnn=>hw nn (.inr (.inl (qot (Ee.2 ⟨i,A0.2 him,rfl⟩) _ hnn)))
   refine ⟨x,_,_,q,?_,hq,hlq,by rw [hsl];exact hxr⟩
   rw [← hsp]
  by_cases hz:len=0
  ·subst hz
   exact ⟨[],.slice (some a) 0 m,rfl,some a,m,rfl,by simp,(fun h=>by cases h),by simp,fun i x hx=>by simp at hx⟩
  have hspot:∃ b off,a=⟨b,off,none⟩:=by
   obtain ⟨x,b,off,q,e1,_⟩:=hone 0 E8
   obtain ⟨ab,ao,asp⟩:=a
   simp [Addr.add] at e1
   exact ⟨ab,ao,by rw [e1.2.2]⟩
  obtain ⟨b,off,rfl⟩:=hspot
  obtain ⟨x0,_⟩:=hone 0 E8
  haveI:Inhabited α := ⟨x0⟩
  obtain ⟨V,hV⟩:=choose_lt (α := α) hone
  have hlen:((List.range len).map V).length=len:=by simp
  refine ⟨(List.range len).map V,.slice (some ⟨b,off,none⟩) len m,rfl,some ⟨b,off,none⟩,m,by rw [hlen],by rw [hlen];exact hl,(fun h=>by cases h),?_,fun i x hx=>?_⟩
  ·rw [hlen]
   exact Ar (Af _ (by omega:len≤len+(m-len))) hw1
  ·have hi:i<len:=by
    have:=(Xz.1 hx).1
    omega
   have hxe:V i=x:=by simpa [hi] using hx
   obtain ⟨b',off',q,e1,hq,hlq,hr⟩:=hV i hi
   rw [Addr.add_lit] at e1
   cases e1
   exact ⟨_,_,q,rfl,hq,hlq,hxe ▸ hr⟩⟩
theorem qi6 {H:Type} {enc:TypeId × Value→H} {w:World} {fuel:Nat} {cs:List Value} {d:DataW H} {p:List MemPlace} {fs:Array Field} (ht:P.underlying t=some (.struct fs))
 (h:DataW.trod enc P w 0 (fun _=>true) true fuel t cs=some (d,p)) (hw:∀ n∈d.weights P t,n≤reachBytes) (i:Nat) (f:Field) (hf:fs[i]? = some f) {e:TypeId} {o k:Nat} (h1:f.type=e) (h2:f.offset=o) (hk:Rep.k α = k) (he:Opn P e α) :
 ∃ x : α,rep (wholeM w) (sl cs o k) x:=by
 subst hk;subst h1;subst h2;obtain ⟨ys,n,_,hx,_,hyl,hfld⟩:=DataW.trod_struct ht h;obtain ⟨rfl,rfl⟩:=Prod.mk.inj hx;have hi:i<fs.size:=(Bh.1 hf).1;have e0:=hfld i f hf;rw [Xy E8,he.1] at e0;refine he.2 H enc w n _ _ _ e0 fun nn hnn=>hw nn ?_;simp only [DataW.weights,ht];refine qu3 (j:=i) ?_ ?_ nn hnn
 ·simp only [Aw];rw [Bt,hf];rfl
 ·simp only [Aw,Xy (show i<ys.length by omega),Ac];rfl
theorem zcg (ho:Opn P t α) {H:Type} {enc:TypeId × Value→H} {w:World} {v:Value} {d:DataW H} {p:List MemPlace} (h:DataW.Trod enc P w 0 (fun _=>true) true t v d p) (hw:(d.weights P t).all (· ≤ reachBytes)=true) :
 ∃ x : α,rep (wholeM w) v.cells.toList x:=by
 obtain ⟨fuel,hf⟩:=h;exact ho.2 H enc w fuel _ _ _ hf fun n hn=>of_decide_eq_true (Bg.1 hw n hn)
theorem opn_row {e:TypeId} (ht:P.underlying t=some (.slice e)) (ho:Opn P t (List α)) {H:Type} {enc:TypeId × Value→H} {w:World} {v:Value} {d:DataW H} {p:List MemPlace} (hv:Value.okWide P w .any 0 t v)
 (h:DataW.Trod enc P w 0 (fun _=>true) true t v d p) (hw:(d.weights P t).all (· ≤ reachBytes)=true):∃ l:List α,repL (wholeM w) v l:=by
 obtain ⟨a,len,cap,rfl⟩:=okWide_slice ht hv;obtain ⟨x,v',hx,hr⟩:=zcg ho h hw;have:v'= .slice a len cap:=by simpa [Value.cells] using hx.symm
 subst this;exact ⟨x,hr⟩
end
def g0:GGraph:={ known:=((Zr.zd:Vector Bool 32).setIfInBounds 1 true).setIfInBounds 2 true,deps:=((Zr.zd:Vector (List Int) 32).setIfInBounds 1 [2]).setIfInBounds 2 [1] }
def qu4 (sh:Int) (s:GNode) (m:Nat):GNode:=bif (eat s.entries m).state==2 then zcc s m sh else s
def q81 (sh:Int) (s:GNode) (l:List Nat):GNode:=l.foldl (qu4 sh) s
noncomputable def q5p (g:GGraph) (n:Nat):List Nat:=if qji g (n:Int)=true then q4b (qat g) n else []
noncomputable def qpg (g:GGraph) (sh:Int) (s:GNode) (n:Nat):GNode:=bif (eat s.entries n).state==2 then q81 sh s (q5p g n) else s
noncomputable def qu5 (s:GNode) (sh:Int):GNode:=(List.range 32).foldl (qpg (qoo s) sh) s
theorem qsq (g:GGraph) (n:Nat):qw1 g (n:Int)=qa6 (q5p g n):=by
 unfold qw1 q5p qa6;by_cases h:qji g (n:Int)=true
 ·rw [if_pos h,if_pos h,Db]
 ·rw [if_neg h,if_neg h];rfl
theorem qu6 {g:GGraph} {n:Nat} (hn:n<32):∀ m∈q5p g n,m<32:=by
 unfold q5p;by_cases h:qji g (n:Int)=true
 ·rw [if_pos h];exact (q0h (qhg g) hn).lt
 ·rw [if_neg h];simp
theorem qtf {g:GGraph} {n:Nat} (hn:n<32):(q5p g n).length≤32:=by
 unfold q5p;by_cases h:qji g (n:Int)=true
 ·rw [if_pos h];exact (q0h (qhg g) hn).len
 ·rw [if_neg h];simp
theorem GoodN.step {s:GNode} (h:GoodN s) {m:Nat} (hm:m<32) (sh:Int):GoodN (qu4 sh s m):=by
 unfold qu4;cases h2:((eat s.entries m).state==2)
 ·exact h
 ·exact h.one hm (by simpa using h2) sh
theorem GoodN.run (sh:Int):∀ (l:List Nat) {s:GNode},GoodN s→(∀ m∈l,m<32)→GoodN (q81 sh s l)
 | [],_,h,_=>h
 | m::t,_,h,hl=>GoodN.run sh t (h.step (hl m List.mem_cons_self) sh) fun x hx=>hl x (List.mem_cons_of_mem _ hx)
theorem GoodN.turn {s:GNode} (h:GoodN s) {n:Nat} (hn:n<32) (g:GGraph) (sh:Int):GoodN (qpg g sh s n):=by
 unfold qpg;cases ((eat s.entries n).state==2)
 ·exact h
 ·exact h.run sh _ (qu6 hn)
theorem GoodN.turns (g:GGraph) (sh:Int):∀ (l:List Nat) {s:GNode},GoodN s→(∀ m∈l,m<32)→GoodN (l.foldl (qpg g sh) s)
 | [],_,h,_=>h
 | m::t,_,h,hl=>GoodN.turns g sh t (h.turn (hl m List.mem_cons_self) g sh) fun x hx=>hl x (List.mem_cons_of_mem _ hx)
theorem GoodN.exec {s:GNode} (h:GoodN s) (sh:Int):GoodN (qu5 s sh):=h.turns _ sh _ fun m hm=>A0.1 hm
theorem q0z (l:List Nat) (k:Nat):(qa6 l)[k]? = (l[k]?).map fun m=>((m:Nat):Int):=by simp [qa6]
theorem q4f {s:GNode} (h:GoodN s) {m:Nat} (hm:m<32) (h2:((eat s.entries m).state==2)=true):KeyOk (eat s.entries m).ops∧(eat s.entries m).ops.length≤4:=by
 have h2:(eat s.entries m).state=2:=by simpa using h2
 have hb:=h.body hm E8;exact ⟨KeyOk.of hb.ops,(qc6 hb.ops).2⟩
theorem qou {fu:Nat} (hfu:5≤fu) {sh y:Int} {rec:GNode→Int→Option GNode} {l:List Nat} (hl:∀ m∈l,m<32) (hlen:l.length≤32):∀ (q m k:Nat) (s:GNode),l.length=k+m→m<q→GoodN s→qca fu sh y rec (qa6 l) q s k=qc5 y rec (q81 sh s (l.drop k))
 | 0,m,k,s,_,h,_=>absurd h E8
 | q+1,0,k,s,hk,_,_=>by
  rw [qca,qhh,qad (qab E8),List.drop_of_length_le E8];rfl
 | q+1,m+1,k,s,hk,hq,hs=>by
  have hlt:k<l.length:=by omega
  have hm:=hl _ (At hlt);have ih:=fun s hs=>qou (y:=y) (rec:=rec) (sh:=sh) hfu hl hlen q m (k+1) s E8 E8 hs;rw [qca,qhh,qae (qac E8),qap,q0z,Xy hlt,X4 hlt];generalize l[k]=x at hm;simp only [Ac,qaa,qiw,wrs k E8];rw [qak E8 E8,qaa,qs0 hm,qaa];show _=qc5 y rec (q81 sh (qu4 sh s x) (l.drop (k+1)));have hst:=hs.step hm sh;unfold qu4 at hst ⊢;cases h2:((eat s.entries x).state==2)
  ·rw [cond_false,cond_false,ih s hs]
  ·rw [h2,cond_true] at hst;obtain ⟨b1,b2⟩:=q4f hs hm h2;rw [cond_true,cond_true,q2x hm b1 b2 (by have:=hs.len;omega) hfu,qaa,ih _ hst]
theorem qov {fu N:Nat} {g:GGraph} (hg:qlb g N) (hfu:N+80≤fu) {sh:Int}:∀ (q m k:Nat) (s:GNode),k+m=32→m<q→GoodN s→qbl fu sh g q s k=some ((List.range' k m).foldl (qpg g sh) s)
 | 0,m,k,s,_,h,_=>absurd h E8
 | q+1,0,k,s,hk,_,_=>by rw [qbl,qad (qab E8),qaa];rfl
 | q+1,m+1,k,s,hk,hq,hs=>by
  have hk32:k<32:=by omega
  have ih:=fun s hs=>qov hg hfu (sh:=sh) q m (k+1) s E8 E8 hs;rw [qbl,qae (qac E8),qak E8 E8,qaa,qs0 hk32,qaa,List.range'_succ,Ey];have hne:((eat s.entries k).state != 2) = !((eat s.entries k).state==2):=rfl;have ht:=hs.turn hk32 g sh;rw [hne];unfold qpg at ht ⊢;cases h2:((eat s.entries k).state==2)
  ·rw [Ah,cond_true,cond_false,qc5,wrs k E8,ih s hs];rfl
  ·rw [h2,cond_true] at ht;rw [Ab,cond_false,cond_true,q5k hg hfu,qaa,qsq];have h:=qou (fu:=fu) (sh:=sh) (y:=(k:Int)) (rec:=qbl fu sh g q) E8 (qu6 (g:=g) hk32) (qtf (g:=g) hk32) fu (q5p g k).length 0 s E8 (by have:=qtf (g:=g) hk32;omega) hs;have h:qca fu sh k (qbl fu sh g q) (qa6 (q5p g k)) fu s 0=qc5 k (qbl fu sh g q) (q81 sh s (q5p g k)):=h;rw [h,qc5,wrs k E8,ih _ ht];rfl
theorem GoodN.small {s:GNode} (h:GoodN s):qlb (qoo s) 33:=by
 intro a;by_cases ha:a<32
 ·rw [qqw ha];by_cases h0:(eat s.entries a).state=0
  ·rw [(h.empty ha h0).2.2.1];simp
  ·have:=qke (h.body ha h0).deps;omega
 ·unfold qa3;rw [dif_neg ha];exact ⟨by simp,by simp⟩
theorem qyw {fu:Nat} {l:List Int} (h:l.length≤17592186043904):qf7 fu l=some l:=by
 have hb:Rep.bytes Int=8:=rfl;unfold qf7;rw [qas (by rw [hb];simp only [Az];omega)];rfl
theorem q00 {fu:Nat} {s:GNode} (hs:GoodN s) (hfu:120≤fu) (sh:Int):qme fu s sh=some (qu5 s sh):=by
 unfold qme;rw [qys E8,qaa,qaa,qyw (by have:=hs.len;omega),qaa,qaa];have h:=qov (fu:=fu) hs.small E8 (sh:=sh) fu 32 0 s E8 E8 hs;unfold qu5;rw [Dp];exact h
theorem qm3 {fu:Nat} (hfu:5≤fu) {sh y:Int} {rec:GNode→Int→Option (GNode × List GFrame × Int)} {l:List Nat} (hl:∀ m∈l,m<32) (hlen:l.length≤32):∀ (q m k:Nat) (s:GNode),l.length=k+m→m<q→GoodN s→qbu fu sh y rec (qa6 l) q s k=qci y rec (q81 sh s (l.drop k))
 | 0,m,k,s,_,h,_=>absurd h E8
 | q+1,0,k,s,hk,_,_=>by
  rw [qbu,qhh,qad (qab E8),List.drop_of_length_le E8];rfl
 | q+1,m+1,k,s,hk,hq,hs=>by
  have hlt:k<l.length:=by omega
  have hm:=hl _ (At hlt);have ih:=fun s hs=>qm3 (y:=y) (rec:=rec) (sh:=sh) hfu hl hlen q m (k+1) s E8 E8 hs;rw [qbu,qhh,qae (qac E8),qap,q0z,Xy hlt,X4 hlt];generalize l[k]=x at hm;simp only [Ac,qaa,qft,wrs k E8];rw [qak E8 E8,qaa,qs0 hm,qaa];show _=qci y rec (q81 sh (qu4 sh s x) (l.drop (k+1)));have hst:=hs.step hm sh;unfold qu4 at hst ⊢;cases h2:((eat s.entries x).state==2)
  ·rw [cond_false,cond_false,ih s hs]
  ·rw [h2,cond_true] at hst;obtain ⟨b1,b2⟩:=q4f hs hm h2;rw [cond_true,cond_true,qvz hm b1 b2 (by have:=hs.len;omega) hfu,qaa,ih _ hst]
theorem qm4 {fu N:Nat} {g:GGraph} (hg:qlb g N) (hfu:N+80≤fu) {who sh:Int} {f:GFrame} {e:GEntry}:∀ (q m k:Nat) (s:GNode),k+m=32→m<q→GoodN s→qba fu who f sh e g q s k=qd3 who f sh e ((List.range' k m).foldl (qpg g sh) s)
 | 0,m,k,s,_,h,_=>absurd h E8
 | q+1,0,k,s,hk,_,_=>by rw [qba,qad (qab E8)];rfl
 | q+1,m+1,k,s,hk,hq,hs=>by
  have hk32:k<32:=by omega
  have ih:=fun s hs=>qm4 hg hfu (who:=who) (f:=f) (e:=e) (sh:=sh) q m (k+1) s E8 E8 hs;rw [qba,qae (qac E8),qak E8 E8,qaa,qs0 hk32,qaa,List.range'_succ,Ey];have hne:((eat s.entries k).state != 2) = !((eat s.entries k).state==2):=rfl;have ht:=hs.turn hk32 g sh;rw [hne];unfold qpg at ht ⊢;cases h2:((eat s.entries k).state==2)
  ·rw [Ah,cond_true,cond_false,qci,wrs k E8,ih s hs];rfl
  ·rw [h2,cond_true] at ht;rw [Ab,cond_false,cond_true,q2p hg hfu,qaa,qsq];have h:=qm3 (fu:=fu) (sh:=sh) (y:=(k:Int)) (rec:=qba fu who f sh e g q) E8 (qu6 (g:=g) hk32) (qtf (g:=g) hk32) fu (q5p g k).length 0 s E8 (by have:=qtf (g:=g) hk32;omega) hs;have h:qbu fu sh k (qba fu who f sh e g q) (qa6 (q5p g k)) fu s 0=qci k (qba fu who f sh e g q) (q81 sh s (q5p g k)):=h;rw [h,qci,wrs k E8,ih _ ht];rfl
def qm5 (who id:Int):GFrame:={ kind:=4,node:=who,id:=id,ops:=[],deps:=[],at_:=[],vals:=[] }
def q5q (who id:Int) (x:GEntry):GFrame:={ kind:=5,node:=who,id:=id,ops:=[],deps:=[],at_:=x.at_,vals:=x.values }
def qyx (who id:Int) (l:List Int):GFrame:={ kind:=2,node:=who,id:=id,ops:=[],deps:=l,at_:=[],vals:=[] }
def qgq (sh who id:Int) (s:GNode):List GFrame:=bif (eat s.entries id.toNat).state==3&&qag (eat s.entries id.toNat).ops sh then [qm5 who id,q5q who id (eat s.entries id.toNat)] else [qm5 who id]
def qxb (s:GNode) (f:GFrame) (sh:Int):GEntry:={ state:=1,ops:=f.ops,first:=qm0 s f.id f.ops sh,deps:=[],at_:=[],values:=[] }
def q5r (s:GNode) (f:GFrame) (sh:Int):GNode:=bif (eat s.entries f.id.toNat).state==0 then { s with entries:=s.entries.setIfInBounds f.id.toNat (qxb s f sh) } else s
def qow (s:GNode) (f:GFrame) (sh:Int):List Int:=bif (eat s.entries f.id.toNat).state==0 then qm0 s f.id f.ops sh else (eat s.entries f.id.toNat).first
def q5s (s:GNode) (f:GFrame) (sh:Int):GEntry:={ state:=2,ops:=f.ops,first:=qow s f sh,deps:=f.deps,at_:=(eat s.entries f.id.toNat).at_,values:=(eat s.entries f.id.toNat).values }
def qph (s:GNode) (f:GFrame) (sh:Int):GNode:={ s with entries:=s.entries.setIfInBounds f.id.toNat (q5s s f sh) }
noncomputable def qd5 (s:GNode) (f:GFrame) (sh:Int):GNode:=bif decide ((eat s.entries f.id.toNat).state<2) then qu5 (qph s f sh) sh else s
noncomputable def qrw (s:GNode) (who:Int) (f:GFrame):GNode × List GFrame × Int :=
 bif f.kind==1 then bif qag f.ops (ofZ who) then (q5r s f (ofZ who),[qyx who f.id (eat (q5r s f (ofZ who)).entries f.id.toNat).first],0) else (s,[],4)
 else bif f.kind==3 then (qd5 s f (ofZ who),qgq (ofZ who) who f.id (qd5 s f (ofZ who)),0) else (s,[],3)
noncomputable def qcj (s:GNode) (who:Int) (f:GFrame):GNode × List GFrame × Int :=
 bif qyq s&&(decide (0≤who∧who<6)&&f.node==who) then bif qaf f==0 then qrw s who f else (s,[],qaf f) else (s,[],2)
theorem q5t {l:List Nat} (h:l.Pairwise (· < ·)) (h32:∀ m∈l,m<32):qam (qa6 l)=true:=by
 unfold qam;rw [qfd];intro i hi;rw [qhh] at hi;have g:∀ j,j<l.length→(qa6 l).getD j 0=((l[j]?.getD 0:Nat):Int):=fun j hj=>by
  simp [qa6,hj]
 unfold qhs;rw [g i hi,Xy hi,Ae];have h1:=h32 _ (At hi);rw [qac E8,qac E8,Aj,Aj];by_cases h0:i=0
 ·simp [h0]
 ·rw [g (i-1) E8,Xy (show i-1<l.length by omega),Ae];have:=A7.1 h (i-1) i E8 hi E8;rw [qac E8,Bool.or_true]
theorem aheadL_mem {s:GNode} {id:Int} {ops:List GOp} {sh:Int} {m:Nat}:m∈q0s s id ops sh↔m<32∧qrv s id ops sh m=true:=by
 unfold q0s;simp
theorem q4g {s:GNode} {n:Nat} {ops:List GOp} {sh:Int}:qam (qm0 s n ops sh)=true∧qco (qm0 s n ops sh) n=false:=by
 refine ⟨q5t ?_ fun m hm=>(aheadL_mem.1 hm).1,?_⟩
 ·exact List.Pairwise.filter _ List.pairwise_lt_range
 ·rw [qm0,qrs];apply qab;intro h;have:=(aheadL_mem.1 h).2;unfold qrv at this;simp at this
theorem qu7 {f:GFrame} (h:qaf f=0):qf4 f=true∧qd6 f=true∧qlp f=true:=by
 unfold qaf at h;split at h
 ·cases h
 ·split at h
  ·cases h
  ·split at h
   ·rename_i h3;simpa [X1] using h3
   ·cases h
theorem q8f {f:GFrame} (h:qaf f=0) (hk:f.kind=1∨f.kind=3):qaj f.ops=true:=by
 have:=(qu7 h).1;unfold qf4 at this;rwa [if_pos hk] at this
theorem q8g {f:GFrame} (h:qaf f=0) (hk:f.kind=3):qam f.deps=true∧qco f.deps f.id=false:=by
 have:=(qu7 h).2.1;unfold qd6 at this;rw [if_pos (.inr hk)] at this;simpa [X1] using this
theorem GoodN.asked {s:GNode} (h:GoodN s) {f:GFrame} (hf:qaf f=0) (hk:f.kind=1) (sh:Int):GoodN (q5r s f sh):=by
 obtain ⟨_,_,hid⟩:=qd4 hf;obtain ⟨n,hn⟩:∃ n:Nat,f.id=n:=⟨f.id.toNat,by omega⟩;unfold q5r;rw [hn,Db];cases h0:((eat s.entries n).state==0)
 ·exact h
 ·have h0:(eat s.entries n).state=0:=by simpa using h0
  refine h.set (n:=n) E8 rfl rfl E8 ⟨by show (1:Int)≤1;omega,by show (1:Int)≤2;omega⟩ ?_;have ha:qam (qm0 s f.id f.ops sh)=true∧qco (qm0 s f.id f.ops sh) n=false:=by rw [hn];exact q4g
  exact ⟨q8f hf (.inl hk),ha.1,rfl,ha.2,rfl,fun _=>rfl,fun _=>rfl,rfl,rfl⟩
theorem GoodN.comm {s:GNode} (h:GoodN s) {f:GFrame} (hf:qaf f=0) (hk:f.kind=3) (h2:(eat s.entries f.id.toNat).state<2) (sh:Int):GoodN (qph s f sh):=by
 obtain ⟨_,_,hid⟩:=qd4 hf;obtain ⟨n,hn⟩:∃ n:Nat,f.id=n:=⟨f.id.toNat,by omega⟩;have hn32:n<32:=by omega
 have hto:f.id.toNat=n:=by rw [hn];rfl
 rw [hto] at h2;have hfi:qam (qow s f sh)=true∧qco (qow s f sh) n=false:=by
  unfold qow;rw [hto];cases h0:((eat s.entries n).state==0)
  ·have hb:=h.body hn32 (by simpa using h0);exact ⟨hb.first,hb.nfirst⟩
  ·rw [cond_true,hn];exact q4g
 have hat:(eat s.entries n).at_=[]∧(eat s.entries n).values=[]:=by
  by_cases h0:(eat s.entries n).state=0
  ·exact ⟨(h.empty hn32 h0).2.2.2.1,(h.empty hn32 h0).2.2.2.2⟩
  ·have hb:=h.body hn32 h0;have h1:=hb.undone E8;have h2:=hb.same;rw [h1] at h2;exact ⟨h1,Av.1 h2.symm⟩
 have hd:=q8g hf hk;rw [hn] at hd;refine h.set (n:=n) hn32 (e:=q5s s f sh) (by rw [← hto];rfl) rfl E8 ⟨by show (1:Int)≤2;omega,by show (2:Int)≤2;omega⟩ ?_;have e1:(q5s s f sh).at_=[]:=by rw [← hat.1,← hto];rfl
 have e2:(q5s s f sh).values=[]:=by rw [← hat.2,← hto];rfl
 refine ⟨q8f hf (.inr hk),hfi.1,hd.1,hfi.2,hd.2,fun h=>?_,fun _=>e1,by rw [e1,e2],by rw [e1];rfl⟩;have h:(2:Int)=1:=h;omega
theorem GoodN.commit {s:GNode} (h:GoodN s) {f:GFrame} (hf:qaf f=0) (hk:f.kind=3) (sh:Int):GoodN (qd5 s f sh):=by
 unfold qd5;by_cases h2:(eat s.entries f.id.toNat).state<2
 ·rw [qae (qac h2)];exact (h.comm hf hk h2 sh).exec sh
 ·rw [qad (qab h2)];exact h
theorem qu8 {v:Vector GEntry 32} {j:Int} (h0:0≤j) (h1:j<32):qan v j=some (eat v j.toNat):=by
 obtain ⟨n,rfl⟩:∃ n:Nat,j=n:=⟨j.toNat,by omega⟩;rw [qs0 E8,Db]
theorem qxc {fu:Nat} {x:Int}:qrg fu x=some (decide (0≤x∧x<6)):=by
 unfold qrg qmc;by_cases h:x≥0
 ·rw [qae (qac h)];congr 1;apply decide_eq_decide.2;omega
 ·rw [qad (qab h),qab E8]
theorem qox {who sh:Int} {f:GFrame} {d:GNode} (hf:0≤f.id∧f.id<32):qgd who f sh d=some (d,qgq sh who f.id d,0):=by
 unfold qgd qiy qix qgq;have hb:Rep.bytes GFrame=120:=rfl;rw [qaa,qak hf.1 hf.2,qaa,qu8 hf.1 hf.2,qaa,qaa];cases ((eat d.entries f.id.toNat).state==3)
 ·rfl
 ·simp only [cond_true,qaa,Aj];cases qag (eat d.entries f.id.toNat).ops sh
  ·rfl
  ·rw [cond_true,qas (by rw [hb];simp)];rfl
theorem qm6 {who sh:Int} {f:GFrame} {e:GEntry} {d:GNode} (hf:0≤f.id∧f.id<32):qd3 who f sh e d=some (d,qgq sh who f.id d,0):=by
 unfold qd3 qhd qhc qgq;have hb:Rep.bytes GFrame=120:=rfl;rw [qaa,qak hf.1 hf.2,qaa,qu8 hf.1 hf.2,qaa,qaa];cases ((eat d.entries f.id.toNat).state==3)
 ·rfl
 ·simp only [cond_true,qaa,Aj];cases qag (eat d.entries f.id.toNat).ops sh
  ·rfl
  ·rw [cond_true,qas (by rw [hb];simp)];rfl
theorem qoy {fu:Nat} {s d:GNode} {who sh:Int} {f:GFrame} (hf:0≤f.id∧f.id<32) (hfu:120≤fu) (hg:GoodN (qph s f sh))
 (hd:d.entries=s.entries.setIfInBounds f.id.toNat { eat s.entries f.id.toNat with first:=qow s f sh }) (ho:d.order=s.order) (hv:d.values=s.values) :
 qge fu who f sh d=some (qu5 (qph s f sh) sh,qgq sh who f.id (qu5 (qph s f sh) sh),0):=by
 have hn:f.id.toNat<32:=by omega
 obtain ⟨n,hnn⟩:∃ n:Nat,f.id=n:=⟨f.id.toNat,by omega⟩;unfold qge;have e1:∀ (x:Vector GEntry 32),({ d with entries:=x }:GNode).entries=x:=fun _=>rfl;rw [qu8 hf.1 hf.2,qaa,qar hf.1 hf.2,qaa,qaa];rw [e1,qu8 hf.1 hf.2,qaa,qdn hn,if_pos rfl,qar hf.1 hf.2,qaa,qaa];simp only [A4];rw [qu8 hf.1 hf.2,qaa,qdn hn,if_pos rfl,qar hf.1 hf.2,qaa,qaa];simp only [A4];have hc:({ entries:=d.entries.setIfInBounds f.id.toNat { state:=2,ops:=f.ops,first:=(eat d.entries f.id.toNat).first,deps:=f.deps,at_:=(eat d.entries f.id.toNat).at_,values:=(eat d.entries f.id.toNat).values },order:=d.order,values:=d.values }:GNode)=qph s f sh:=by
  unfold qph q5s;rw [hd,ho,hv,qdn hn,if_pos rfl];simp only [A4]
 rw [hc,q00 hg hfu,qaa,qaa,qox hf]
theorem q8h {v:Vector GEntry 32} {k:Nat} (hk:k<32):v.setIfInBounds k (eat v k)=v:=by
 refine q8c fun j hj=>?_;rw [qdn hk];by_cases e:k=j
 ·rw [if_pos e,e]
 ·rw [if_neg e]
theorem qv0 {fu:Nat} {s:GNode} {who:Int} {f:GFrame} {d:GNode} (hg:GoodN s) (hz:qaf f=0) (hfu:120≤fu):qgf fu s who f d=some (qrw s who f):=by
 obtain ⟨_,_,hf⟩:=qd4 hz;have hn:f.id.toNat<32:=by omega
 unfold qgf qrw;rw [hz,qaa,qad (by rfl),qaa,qak hf.1 hf.2,qaa];cases h1:(f.kind==1)
 ·rw [cond_false,cond_false];cases h3:(f.kind==3)
  ·rfl
  ·rw [cond_true,cond_true,qu8 hf.1 hf.2,qaa,qaa];unfold qd5;have hk:f.kind=3:=by simpa using h3
   by_cases h2:(eat s.entries f.id.toNat).state<2
   ·have hc:=hg.comm hz hk h2 (ofZ who);rw [qae (qac h2),qae (qac h2)];cases h0:((eat s.entries f.id.toNat).state==0)
    ·rw [cond_false];refine qoy hf hfu hc ?_ rfl rfl;unfold qow;rw [h0,cond_false];exact (q8h hn).symm
    ·rw [cond_true,qqv E8,qaa,qaa,qar hf.1 hf.2,qaa,qaa];refine qoy hf hfu hc ?_ rfl rfl;unfold qow;rw [h0,cond_true]
   ·rw [qad (qab h2),qad (qab h2),qox hf]
 ·rw [cond_true,cond_true,qaa];cases qag f.ops (ofZ who)
  ·rfl
  ·rw [qad (c := !true) rfl,cond_true,qu8 hf.1 hf.2,qaa];unfold q5r;cases h0:((eat s.entries f.id.toNat).state==0)
   ·rw [cond_false,cond_false,qgc,qu8 hf.1 hf.2];rfl
   ·rw [cond_true,qqv E8,qaa,qaa,qaa,qar hf.1 hf.2,qaa,qaa,qgc,qu8 hf.1 hf.2];rfl
theorem qsr {fu N:Nat} {s:GNode} {who:Int} {f:GFrame} (hs:NSz s N) (h1:N+40≤fu) (hfu:120≤fu):qj9 fu s who f=some (qcj s who f):=by
 unfold qj9 qcj;rw [q0q hs h1,qaa];cases hg:qyq s
 ·rfl
 ·have hg:=goodN_iff.1 hg;rw [qad (c := !true) rfl,qxc,qaa,Aj];cases decide (0≤who∧who<6)
  ·rfl
  ·rw [qad (c := !true) rfl,Aj];unfold qgg;have hne:(f.node != who) = !(f.node==who):=rfl;rw [hne];cases (f.node==who)
   ·rfl
   ·rw [Ab,cond_false,cond_true];cases hz:(qaf f==0)
    ·unfold qgf;have:(qaf f != 0)=true:=by rw [bne,hz];rfl
     rw [qaa,this];rfl
    ·exact qv0 hg (by simpa using hz) hfu
theorem qm7 {fu:Nat} {s:GNode} {who sh:Int} {f:GFrame} {e:GEntry} (hf:0≤f.id∧f.id<32) (hfu:120≤fu) (hg:GoodN (qph s f sh)) (he:e={ eat s.entries f.id.toNat with first:=qow s f sh }) :
 qe8 fu who f sh s e=some (qu5 (qph s f sh) sh,qgq sh who f.id (qu5 (qph s f sh) sh),0):=by
 unfold qe8;rw [qaa,qaa,qaa,qak hf.1 hf.2,qaa,qu8 hf.1 hf.2,qaa,qar hf.1 hf.2,qaa,qaa];have hc:({ s with entries:=s.entries.setIfInBounds f.id.toNat { state:=2,ops:=f.ops,first:=e.first,deps:=f.deps,at_:=e.at_,values:=e.values } }:GNode)=qph s f sh:=by
  rw [he];rfl
 rw [hc,q2u E8,qaa,qaa];have h:=qm4 (fu:=fu) hg.small E8 (who:=who) (f:=f) (sh:=sh) (e:={ state:=2,ops:=f.ops,first:=e.first,deps:=f.deps,at_:=e.at_,values:=e.values }) fu 32 0 _ E8 E8 hg
 have e2:(List.range' 0 32).foldl (qpg (qoo (qph s f sh)) sh) (qph s f sh)=qu5 (qph s f sh) sh:=by unfold qu5;rw [Dp]
 rw [e2,qm6 hf] at h;exact h
theorem qm8 {fu N:Nat} {s:GNode} {who:Int} {f:GFrame} {d:GNode} (hg:GoodN s) (hs:NSz s N) (hz:qaf f=0) (hfu:120≤fu) (h13:f.kind=1∨f.kind=3):qhe fu s who f d=some (qrw s who f):=by
 obtain ⟨_,_,hf⟩:=qd4 hz;have hn:f.id.toNat<32:=by omega
 have h0s:∀ k,k<32→0≤(eat s.entries k).state:=fun k hk=>(hg.state hk).1;unfold qhe qrw;rw [qaa,qaa,q0r hs E8,qaa,qaa,qak hf.1 hf.2,qaa,qu8 hf.1 hf.2,qaa,qaa];cases h1:(f.kind==1)
 ·have hk:f.kind=3:=by
   rcases h13 with h | h
   ·rw [h] at h1;cases h1
   ·exact h
  have h3:(f.kind==3)=true:=by simpa using hk
  rw [cond_false,cond_false,h3,cond_true];unfold qd5;by_cases h2:(eat s.entries f.id.toNat).state<2
  ·have hc:=hg.comm hz hk h2 (ofZ who);rw [qae (qac h2),qae (qac h2)];cases h0:((eat s.entries f.id.toNat).state==0)
   ·rw [cond_false];refine qm7 hf hfu hc ?_;unfold qow;rw [h0,cond_false]
   ·rw [cond_true,qw9 h0s E8,qaa,qaa];refine qm7 hf hfu hc ?_;unfold qow;rw [h0,cond_true]
  ·rw [qad (qab h2),qad (qab h2),qm6 hf]
 ·rw [cond_true,cond_true,qaa];cases qag f.ops (ofZ who)
  ·rfl
  ·rw [qad (c := !true) rfl,cond_true];unfold q5r;cases h0:((eat s.entries f.id.toNat).state==0)
   ·rfl
   ·rw [cond_true,qw9 h0s E8,qaa,qaa,qaa,qaa,qar hf.1 hf.2,qaa,qaa];unfold qhb;have e:eat (s.entries.setIfInBounds f.id.toNat (qxb s f (ofZ who))) f.id.toNat=qxb s f (ofZ who):=by rw [qdn hn,if_pos rfl]
    rw [cond_true];show some (_,[qyx who f.id (qxb s f (ofZ who)).first],(0:Int))=some (_,[qyx who f.id (eat (s.entries.setIfInBounds f.id.toNat (qxb s f (ofZ who))) f.id.toNat).first],0)
    rw [e];rfl
theorem qqz {fu N:Nat} {s:GNode} {who:Int} {f:GFrame} (hs:NSz s N) (h1:N+40≤fu) (hfu:120≤fu):qie fu s who f=some (qcj s who f):=by
 unfold qie qcj;rw [q5m hs h1,qaa];cases hg:qyq s
 ·rfl
 ·have hg:=goodN_iff.1 hg;rw [qad (c := !true) rfl,Aj];by_cases hw0:who<0
  ·rw [qae (qac hw0),qab (show ¬ (0≤who∧who<6) by omega)];rfl
  ·rw [qad (qab hw0)];by_cases hw5:who>5
   ·rw [qae (qac hw5),qab (show ¬ (0≤who∧who<6) by omega)];rfl
   ·rw [qad (qab hw5),qac (show 0≤who∧who<6 by omega),Aj];unfold qc8;have hne:(f.node != who) = !(f.node==who):=rfl;rw [hne];cases (f.node==who)
    ·rfl
    ·rw [Ab,cond_false,cond_true];unfold qjh;cases hz:(qaf f==0)
     ·have:(qaf f != 0)=true:=by rw [bne,hz];rfl
      rw [qaa,this];rfl
     ·have:(qaf f != 0)=false:=by rw [bne,hz];rfl
      rw [qaa,this,cond_false,cond_true];have hz:qaf f=0:=by simpa using hz
      have h1e:(f.kind != 1) = !(f.kind==1):=rfl;have h3e:(f.kind != 3) = !(f.kind==3):=rfl;rw [h1e,h3e];unfold qfu;cases h1:(f.kind==1)
      ·cases h3:(f.kind==3)
       ·unfold qrw;rw [h1,h3];rfl
       ·exact qm8 (d:=Zr.zd) hg hs hz hfu (.inr (by simpa using h3))
      ·exact qm8 (d:=Zr.zd) hg hs hz hfu (.inl (by simpa using h1))
theorem q4h {m:Int}:∀ {l:List Int} {b:Int},qyp m b l=true→l=[]∨b+l.length<m
 | [],_,_ => .inl rfl
 | x::t,b,h=>by
  unfold qyp at h;simp only [Bool.and_eq_true,decide_eq_true_eq] at h;refine .inr ?_;rcases q4h h.2 with e | e
  ·subst e;simp;omega
  ·simp only [List.length_cons];omega
theorem GoodN.sizes {s:GNode} (h:GoodN s):NSz s 33:=by
 refine ⟨by have:=h.len;omega,fun k=>?_⟩;by_cases hk:k<32
 ·by_cases h0:(eat s.entries k).state=0
  ·obtain ⟨e1,e2,e3,e4,e5⟩:=h.empty hk h0;refine ⟨?_,?_,?_,?_,?_⟩
   ·rw [e1];simp
   ·rw [e2];simp
   ·rw [e3];simp
   ·rw [e4];simp
   ·rw [e5];simp
  ·have hb:=h.body hk h0;have h1:=qc6 hb.ops;have h2:=qke hb.first
   have h3:=qke hb.deps;have h4:(eat s.entries k).at_.length≤4:=by
    rcases q4h hb.up with e | e
    ·rw [e];simp
    ·omega
   have h5:=hb.same;exact ⟨by omega,by omega,by omega,by omega,by omega⟩
 ·rw [zb9 hk];have e:(Zr.zd:GEntry)={ state:=0,ops:=[],first:=[],deps:=[],at_:=[],values:=[] }:=rfl
  rw [e];exact ⟨by simp,by simp,by simp,by simp,by simp⟩
theorem NSz.mono {s:GNode} {N M:Nat} (h:NSz s N) (hNM:N≤M):NSz s M :=
 ⟨⟨by have:=h.order.1;omega,h.order.2⟩,fun k=>by
  have e:=h.ent k
  exact ⟨⟨by have:=e.ops.1;omega,e.ops.2⟩,⟨by have:=e.first.1;omega,e.first.2⟩,⟨by have:=e.deps.1;omega,e.deps.2⟩,⟨by have:=e.at_.1;omega,e.at_.2⟩,⟨by have:=e.values.1;omega,e.values.2⟩⟩⟩
def zeroN:GNode:={ entries:=Zr.zd,order:=Zr.zd,values:=Zr.zd }
theorem q4i (k:Nat):eat (Zr.zd:Vector GEntry 32) k=Zr.zd:=by
 show eat (Vector.replicate 32 Zr.zd) k=Zr.zd;unfold eat;by_cases hk:k<32<;>simp [hk]
theorem qi7:GoodN zeroN:=by
 refine ⟨List.nodup_nil,(by intro m hm;cases hm),fun k hk=>?_⟩;show qgn k (eat (Zr.zd:Vector GEntry 32) k) (decide ((k:Int)∈([]:List Int)))=true;rw [q4i];rfl
def f9:GFrame:={ kind:=3,node:=3,id:=4,ops:=[{ kind:=2,key:=1,n:=9 }],deps:=[],at_:=[],vals:=[] }
theorem ESz.mono {e:GEntry} {N M:Nat} (h:ESz e N) (hNM:N≤M):ESz e M :=
 ⟨⟨by have:=h.ops.1;omega,h.ops.2⟩,⟨by have:=h.first.1;omega,h.first.2⟩,⟨by have:=h.deps.1;omega,h.deps.2⟩,⟨by have:=h.at_.1;omega,h.at_.2⟩,⟨by have:=h.values.1;omega,h.values.2⟩⟩
def zfh (l:List Int):Prop:=∀ c∈l,0≤c∧c<256
theorem q01 {n:Int} (h1 : -1099511627776≤n) (h2:n≤1099511627776):q6a ((n+140737488355328) / 1099511627776%256) ((n+140737488355328) / 4294967296%256) ((n+140737488355328) / 16777216%256) ((n+140737488355328) / 65536%256) ((n+140737488355328) / 256%256) ((n+140737488355328)%256)=n:=by
 unfold q6a;omega
theorem q4j {r:List Int}:∀ (os:List GOp),(∀ o∈os,-1099511627776≤o.n∧o.n≤1099511627776)→q38 os.length (os.flatMap qhr++r)=some (os,r)
 | [],_=>rfl
 | o::t,h=>by
  have h0:=h o X2;have ih:=q4j (r:=r) t fun x hx=>h x (X0 _ hx);have e:(o::t).flatMap qhr++r=o.kind::o.key::(o.n+140737488355328) / 1099511627776%256::(o.n+140737488355328) / 4294967296%256::(o.n+140737488355328) / 16777216%256::(o.n+140737488355328) / 65536%256::(o.n+140737488355328) / 256%256::(o.n+140737488355328)%256::(t.flatMap qhr++r):=rfl;rw [e,X9,q38,ih,q01 h0.1 h0.2];rfl
theorem q4k {r:List Int}:∀ (ats vs:List Int),vs.length=ats.length→(∀ v∈vs,-1099511627776≤v∧v≤1099511627776)→qrk ats.length ((ats.zip vs).flatMap qcg++r)=some (ats,vs,r)
 | [],[],_,_=>rfl
 | [],_::_,h,_=>by simp at h
 | _::_,[],h,_=>by simp at h
 | a::ats,v::vs,hl,h=>by
  have h0:=h v X2;have ih:=q4k (r:=r) ats vs (by simpa using hl) fun x hx=>h x (X0 _ hx);have e:((a::ats).zip (v::vs)).flatMap qcg++r=a::(v+140737488355328) / 1099511627776%256::(v+140737488355328) / 4294967296%256::(v+140737488355328) / 16777216%256::(v+140737488355328) / 65536%256::(v+140737488355328) / 256%256::(v+140737488355328)%256::((ats.zip vs).flatMap qcg++r):=rfl;rw [e,X9,qrk,ih,q01 h0.1 h0.2];rfl
theorem q8i {f:GFrame} (hf:FOk f) (r:List Int):quf (q2k f++r)=some (f,r):=by
 have e:q2k f++r=f.kind::f.node::f.id::(f.ops.length:Int)::(f.ops.flatMap qhr++((f.deps.length:Int)::(f.deps++((f.at_.length:Int)::((f.at_.zip f.vals).flatMap qcg++r))))):=by
  unfold q2k;simp []
 have h1:=q4j (r:=(f.deps.length:Int)::(f.deps++((f.at_.length:Int)::((f.at_.zip f.vals).flatMap qcg++r)))) f.ops fun o ho=>by have:=hf.op o ho;omega
 have h2:=q4k (r:=r) f.at_ f.vals hf.vals hf.val;have t1:((f.ops.length:Int)).toNat=f.ops.length:=rfl;have t2:((f.deps.length:Int)).toNat=f.deps.length:=rfl;have t3:((f.at_.length:Int)).toNat=f.at_.length:=rfl;rw [e,quf,t1,h1];simp only [Ds];rw [q2m,t2,q2l,if_pos (by simp)];simp only [Ds];rw [List.take_left' rfl,List.drop_left' rfl,qz9,t3,h2];rfl
theorem zch {l:List Int} (h:zfh l):byL (strOfNums l)=l:=by
 unfold byL;rw [strOfNums_data,List.map_map];have:∀ x∈l,((fun b:UInt8=>(b.toNat:Int)) ∘ fun n:Int=>UInt8.ofNat n.toNat) x=x:=by
  intro x hx;have:=h x hx;show (((UInt8.ofNat x.toNat).toNat:Nat):Int)=x;rw [UInt8.toNat_ofNat_of_lt' (by show x.toNat<256;omega)];omega
 rw [List.map_congr_left this];simp
theorem q8j {f:GFrame} (hf:FOk f):zfh (q2k f)∧(q2k f).length≤100:=by
 have six:∀ (n c:Int),c∈q30 n→0≤c∧c<256:=by
  intro n c hc;unfold q30 at hc;simp only [X3,Bw,or_false] at hc;omega
 have hlen6:∀ n,(q30 n).length=6:=fun n=>rfl;have h1:∀ (os:List GOp),(os.flatMap qhr).length=8*os.length:=by
  intro os
  induction os with
  | nil=>rfl
  | cons o t ih =>
   have e0:qhr o=[o.kind,o.key]++q30 o.n:=rfl;rw [A8,X5,ih,e0];simp [hlen6];omega
 have h2:∀ (zs:List (Int × Int)),(zs.flatMap qcg).length=7*zs.length:=by
  intro zs
  induction zs with
  | nil=>rfl
  | cons z t ih =>
   have e0:qcg z=z.1::q30 z.2:=rfl;rw [A8,X5,ih,e0];simp [hlen6];omega
 have hh:=hf.head;have ho:=hf.ops;have hd:=hf.deps;have ha:=hf.at_;refine ⟨fun c hc=>?_,?_⟩
 ·unfold q2k at hc;simp only [Ad,X3,Bw,or_false,List.mem_flatMap] at hc;rcases hc with (h | h | h | h) | ⟨o,h,hx⟩ | h | h | h | ⟨z,h,hx⟩
  ·omega
  ·omega
  ·omega
  ·omega
  ·have:=hf.op o h;have e0:qhr o=[o.kind,o.key]++q30 o.n:=rfl;rw [e0] at hx;simp only [Ad,X3,Bw,or_false] at hx;rcases hx with (h | h) | h
   ·omega
   ·omega
   ·exact six _ _ h
  ·omega
  ·have:=hf.dep c h;omega
  ·omega
  ·have e0:qcg z=z.1::q30 z.2:=rfl;rw [e0] at hx;rcases X3.1 hx with h3 | h3
   ·have:=hf.ats z.1 (List.of_mem_zip h).1;omega
   ·exact six _ _ h3
 ·unfold q2k;simp only [X5,X9,Az,h1,h2,List.length_zip];omega
theorem q5u (l:List Int):(∃ f,quf l=some (f,[])∧qaf f=0∧qoa l=(f,0))∨qoa l=(noF,1):=by
 unfold qoa
 match h:quf l with
 | none=>exact .inr rfl
 | some (f,[]) =>
  by_cases hz:qaf f=0
  ·left;refine ⟨f,rfl,hz,?_⟩;show (bif qaf f==0 then (f,0) else (noF,(1:Int)))=_;rw [hz];rfl
  ·right;have e2:(qaf f==0)=false:=by simp [hz]
   show (bif qaf f==0 then (f,0) else (noF,(1:Int)))=_;rw [e2];rfl
 | some (f,_::_)=>exact .inr rfl
theorem q4l {s:GNode} {who:Int} {f:GFrame} (h:(qcj s who f).2.2≠0):(qcj s who f).1=s∧(qcj s who f).2.1=[]:=by
 unfold qcj at *;cases hc:(qyq s&&(decide (0≤who∧who<6)&&f.node==who))
 ·exact ⟨rfl,rfl⟩
 ·rw [hc,cond_true] at h;rw [cond_true];cases hz:(qaf f==0)
  ·exact ⟨rfl,rfl⟩
  ·rw [hz,cond_true] at h;rw [cond_true];unfold qrw at *;cases h1:(f.kind==1)
   ·rw [h1,cond_false] at h;cases h3:(f.kind==3)
    ·exact ⟨rfl,rfl⟩
    ·rw [h3,cond_true] at h;exact absurd rfl h
   ·rw [h1,cond_true] at h;cases ht:qag f.ops (ofZ who)
    ·exact ⟨rfl,rfl⟩
    ·rw [ht,cond_true] at h;exact absurd rfl h
theorem qtg {s:GNode} {who:Int} {f:GFrame} (hs:GoodN s) (hw:0≤who∧who<6) (hn:f.node=who) (hz:qaf f=0):qcj s who f=qrw s who f:=by
 unfold qcj;rw [goodN_iff.2 hs,hz,qac hw,hn];simp
theorem qq0 {s:GNode} {who:Int} {f:GFrame} (h1:f.kind=1) (ht:qag f.ops (ofZ who)=true):qrw s who f=(q5r s f (ofZ who),[qyx who f.id (eat (q5r s f (ofZ who)).entries f.id.toNat).first],0):=by
 unfold qrw;rw [qae (by simp [h1]),ht];rfl
theorem qjk {s:GNode} {who:Int} {f:GFrame} (h3:f.kind=3):qrw s who f=(qd5 s f (ofZ who),qgq (ofZ who) who f.id (qd5 s f (ofZ who)),0):=by
 unfold qrw;rw [qad (by simp [h3]),qae (by simp [h3])]
theorem qth {s:GNode} {who:Int} {f:GFrame} (h:(qcj s who f).2.2=0):GoodN s∧(0≤who∧who<6)∧f.node=who∧qaf f=0∧((f.kind=1∧qag f.ops (ofZ who)=true)∨f.kind=3):=by
 unfold qcj at h;cases hc:(qyq s&&(decide (0≤who∧who<6)&&f.node==who))
 ·rw [hc] at h;exact absurd (show (2:Int)=0 from h) E9
 ·rw [hc,cond_true] at h;simp only [X1,decide_eq_true_eq,beq_iff_eq] at hc;cases hz:(qaf f==0)
  ·rw [hz] at h;have h:qaf f=0:=h;rw [h] at hz;cases hz
  ·rw [hz,cond_true] at h;refine ⟨goodN_iff.1 hc.1,hc.2.1,hc.2.2,by simpa using hz,?_⟩;unfold qrw at h;cases h1:(f.kind==1)
   ·rw [h1,cond_false] at h;cases h3:(f.kind==3)
    ·rw [h3] at h;exact absurd (show (3:Int)=0 from h) E9
    ·exact .inr (by simpa using h3)
   ·rw [h1,cond_true] at h;cases ht:qag f.ops (ofZ who)
    ·rw [ht] at h;exact absurd (show (4:Int)=0 from h) E9
    ·exact .inl ⟨by simpa using h1,rfl⟩
structure Ex (s t:GNode):Prop where
 ent:∀ k,k<32→eat t.entries k=eat s.entries k∨((eat s.entries k).state=2∧∃ a b,eat t.entries k=qhj (eat s.entries k) a b)
 order:∃ L,t.order=s.order++L
theorem Ex.refl (s:GNode):Ex s s:=⟨fun _ _ => .inl rfl,[],by simp⟩
theorem Ex.trans {s t u:GNode} (h:Ex s t) (k:Ex t u):Ex s u:=by
 refine ⟨fun j hj=>?_,?_⟩
 ·rcases h.ent j hj with e | ⟨e2,a,b,e⟩
  ·rcases k.ent j hj with e' | ⟨e2',a,b,e'⟩
   ·exact .inl (e'.trans e)
   ·rw [e] at e2' e';exact .inr ⟨e2',a,b,e'⟩
  ·rcases k.ent j hj with e' | ⟨e2',_⟩
   ·exact .inr ⟨e2,a,b,e'.trans e⟩
   ·rw [e] at e2';exact absurd (show (3:Int)=2 from e2') E9
 ·obtain ⟨L,h1⟩:=h.order;obtain ⟨L',h2⟩:=k.order;exact ⟨L++L',by rw [h2,h1,Al]⟩
theorem Ex.one {s:GNode} {n:Nat} (hn:n<32) (h2:(eat s.entries n).state=2) (sh:Int):Ex s (zcc s n sh):=by
 refine ⟨fun k hk=>?_,_,rfl⟩;show eat (s.entries.setIfInBounds n _) k=_∨_∧∃ a b,eat (s.entries.setIfInBounds n _) k=_;rw [qdn hn];by_cases e:n=k
 ·subst e;rw [if_pos rfl];exact .inr ⟨h2,_,_,rfl⟩
 ·rw [if_neg e];exact .inl rfl
theorem Ex.step {s:GNode} {m:Nat} (hm:m<32) (sh:Int):Ex s (qu4 sh s m):=by
 unfold qu4;cases h2:((eat s.entries m).state==2)
 ·exact .refl s
 ·exact .one hm (by simpa using h2) sh
theorem Ex.run (sh:Int):∀ (l:List Nat) (s:GNode),(∀ m∈l,m<32)→Ex s (q81 sh s l)
 | [],s,_ => .refl s
 | m::t,_,hl=>(Ex.step (hl m List.mem_cons_self) sh).trans (Ex.run sh t _ fun x hx=>hl x (List.mem_cons_of_mem _ hx))
theorem Ex.turn {s:GNode} {n:Nat} (hn:n<32) (g:GGraph) (sh:Int):Ex s (qpg g sh s n):=by
 unfold qpg;cases ((eat s.entries n).state==2)
 ·exact .refl s
 ·exact Ex.run sh _ s (qu6 hn)
theorem Ex.turns (g:GGraph) (sh:Int):∀ (l:List Nat) (s:GNode),(∀ m∈l,m<32)→Ex s (l.foldl (qpg g sh) s)
 | [],s,_ => .refl s
 | m::t,_,hl=>(Ex.turn (hl m List.mem_cons_self) g sh).trans (Ex.turns g sh t _ fun x hx=>hl x (List.mem_cons_of_mem _ hx))
theorem Ex.exec (s:GNode) (sh:Int):Ex s (qu5 s sh):=Ex.turns _ sh _ s fun m hm=>A0.1 hm
structure Kp (x y:GEntry):Prop where
 state:x.state≤y.state
 first:x.state≠0→x.first=y.first
 body:2≤x.state→x.deps=y.deps∧x.ops=y.ops
 done:x.state=3→x=y
theorem Kp.refl (x:GEntry):Kp x x:=⟨Int.le_refl _,fun _=>rfl,fun _=>⟨rfl,rfl⟩,fun _=>rfl⟩
theorem Kp.trans {x y z:GEntry} (h0:0≤x.state) (h:Kp x y) (k:Kp y z):Kp x z:=by
 have h1:=h.state;refine ⟨Int.le_trans h.state k.state,fun hx=>(h.first hx).trans (k.first E8),fun hx=>?_,fun hx=>?_⟩
 ·obtain ⟨a,b⟩:=h.body hx;obtain ⟨c,d⟩:=k.body E8;exact ⟨a.trans c,b.trans d⟩
 ·have e:=h.done hx;rw [e];exact k.done (by rw [← e];exact hx)
structure KeepN (s t:GNode):Prop where
 ent:∀ k,k<32→Kp (eat s.entries k) (eat t.entries k)
 order:∃ L,t.order=s.order++L
theorem KeepN.refl (s:GNode):KeepN s s:=⟨fun _ _ => .refl _,[],by simp⟩
theorem qif {s:GNode} {who:Int} {f:GFrame} (h:(qcj s who f).2.2=0):GoodN (qcj s who f).1:=by
 obtain ⟨hs,hw,hn,hz,hk⟩:=qth h;rw [qtg hs hw hn hz];rcases hk with ⟨h1,ht⟩ | h3
 ·rw [qq0 h1 ht];exact hs.asked hz h1 _
 ·rw [qjk h3];exact hs.commit hz h3 _
theorem q2z {s:GNode} {who:Int} {f:GFrame} (h:(qcj s who f).2.2=0):(qcj s who f).2.1.length≤100∧∀ x∈(qcj s who f).2.1,x.ops.length≤100∧x.deps.length≤100∧x.at_.length≤100∧x.vals.length≤100:=by
 have hz:=(qif h).sizes;obtain ⟨hs,hw,hn,hf,hk⟩:=qth h;rw [qtg hs hw hn hf] at hz ⊢;rcases hk with ⟨h1,ht⟩ | h3
 ·rw [qq0 h1 ht] at hz ⊢;have hz:NSz (q5r s f (ofZ who)) 33:=hz;refine ⟨by simp,fun x hx=>?_⟩;have hx:=X8.1 hx;have:=(hz.ent f.id.toNat).first.1
  rw [hx];exact ⟨by simp [qyx],by show (eat _ _).first.length≤100;omega,by simp [qyx],by simp [qyx]⟩
 ·rw [qjk h3] at hz ⊢;have hz:NSz (qd5 s f (ofZ who)) 33:=hz;have h1:=(hz.ent f.id.toNat).at_.1;have h2:=(hz.ent f.id.toNat).values.1;show (qgq _ _ _ _).length≤100∧∀ x∈qgq _ _ _ _,_;unfold qgq;have hkn:∀ x,x=qm5 who f.id→x.ops.length≤100∧x.deps.length≤100∧x.at_.length≤100∧x.vals.length≤100:=by
   rintro x rfl;exact ⟨by simp [qm5],by simp [qm5],by simp [qm5],by simp [qm5]⟩
  cases ((eat (qd5 s f (ofZ who)).entries f.id.toNat).state==3&&qag (eat (qd5 s f (ofZ who)).entries f.id.toNat).ops (ofZ who))
  ·exact ⟨by simp,fun x hx=>hkn x (X8.1 hx)⟩
  ·refine ⟨by simp,fun x hx=>?_⟩;rcases X3.1 hx with hx | hx
   ·exact hkn x hx
   ·have hx:=X8.1 hx;rw [hx];exact ⟨by simp [q5q],by simp [q5q],by show (eat _ _).at_.length≤100;omega,by show (eat _ _).values.length≤100;omega⟩
set_option maxHeartbeats 4000000
set_option maxRecDepth 100000
variable {M:Mm} {w:World} {fu:Nat}
def qhk (fu:Nat):Option (GFrame × Int):=(some ({ kind:=Zr.zd,node:=Zr.zd,id:=Zr.zd,ops:=Zr.zd,deps:=Zr.zd,at_:=Zr.zd,vals:=Zr.zd }:GFrame)).bind fun a=>(some a).bind fun b=>some (b,1)
theorem qi8 {r:GFrame × Int} (g:Agree M w)  (a:qhk fu=some r) :
    Calls Tryz.prog 51 #[] w (Gives M w (fun h u=>∃ c,u= .tuple #[Gf c,Ge r.2]∧rep h c r.1)):=by
 refine Zm Tryz.func51 3 fun T n=>?_;have b:Gi w M [] w:=Zt g;rw [qhk] at a;refine Qz ?_;refine Ql (Zn q59 b ?_);intro _ w1 _ b;have d:rep M (Zr.zc GFrame) (Zr.zd:GFrame):=Zr.zr;refine Qa (Qf (Ge 0) rfl)<|Qj<|Qz ?_;obtain ⟨i,k,a⟩:=Qc a;obtain ⟨_,l,e⟩:∃ cs,qay (([(0,1),(1,1),(2,1),(3,1),(4,1),(5,1),(6,1)]:List (Nat × Nat))[·]?) (Zr.zc GFrame) []=some cs∧rep M cs i:=⟨_,Yd,Ye (x:=({ kind:=Zr.zd,node:=Zr.zd,id:=Zr.zd,ops:=Zr.zd,deps:=Zr.zd,at_:=Zr.zd,vals:=Zr.zd }:GFrame)) (Zr.zr:rep M (Zr.zc GFrame) (Zr.zd:GFrame)) k⟩;refine Qa (Z0 [] Xj Vl l) ?_;obtain ⟨_,m,a⟩:=Qc a;refine Ql (Z8 0 7 b d e (Lf (rr d) e) m ?_);intro _ _ f _ _ b;refine Qa (Qf (Ge 1) rfl)<|Qj ?_;cases a;exact Q2 (U6 (j:=0) rfl rfl rfl (Vz Jh f) b rfl (Zc b (Qb _ _ _) ⟨_,rfl,f⟩))
def qbj (b:ByteArray):Nat→Int→Int→Option Int
 | 0,_,_=>none
 | n+1,c,a=>(bif decide (a<6) then (qjv b a).bind fun d=>(qbj b n) (IntKind.wrap .i64 ((IntKind.wrap .i64 (256*c))+(IntKind.wrap .i64 d))) (IntKind.wrap .i64 (a+1)) else some (IntKind.wrap .i64 (c-140737488355328)))
def qn3 (fu:Nat) (x1:ByteArray):Option Int := qbj x1 fu 0 0
theorem qxd {c:ByteArray} {r:Int} (p:Agree M w)  (a:qn3 fu c=some r) :
    Calls Tryz.prog 52 #[.string c] w (qax w (Ge r)):=by
 refine Zm Tryz.func52 18 fun T q=>?_;have s:T 0= .string c:=q 0;have e:Gi w M [] w:=Zt p;rw [qn3] at a;refine Qz<|Qa (Qf (Ge 0) rfl)<|Qj<|Qz<|Qa (Qf (Ge 0) rfl)<|Qj<|Qu<|Qz<|Qa (Qd (Ge 0) rfl)<|Qj<|Qs ?_;refine Zy (fun i g k=>∃ h d b,Gh w M h∧Gi w h [] k∧g 0= .string c∧g 3=Ge d∧g 5=Ge b∧qbj c i d b=some r) fu ?_ ?_ ?_;exact ⟨M,(0:Int),(0:Int),(Qb _ _ _),e,s,rfl,rfl,a⟩;rintro g k ⟨_,_,_,_,_,_,_,_,a⟩;rw [qbj] at a;cases a;intro i;rintro _ _ ⟨h,d,b,t,e,l,m,j,a⟩;rw [qbj] at a;obtain ⟨_,n⟩:∃ f,f=qbj c i:=⟨_,rfl⟩;rw [← n] at a;refine Qz<|Qa (Zw j rfl)<|Qj<|Qu ?_;refine Q4 a rfl (fun u a=>?_) fun u a=>?_;refine Qk<|Qe<|Qu<|Qs<|Qz<|Zj j<|Qa (Qf (Ge b) rfl)<|Qj<|Q1<|Zj m<|Qa (q1j rfl rfl)<|Zj l<|Qa (Qd (Ge b) rfl) ?_;obtain ⟨o,v,a⟩:=Qc a;refine Qa (Jr Qr rfl rfl v)<|Qa (Va ⟨_,Za⟩ Zd rfl)<|Qa (Zu rfl rfl)<|Qa (Qf (Ge (IntKind.wrap .i64 ((IntKind.wrap .i64 (256*d))+(IntKind.wrap .i64 o)))) rfl)<|Yk<|Q7<|Qe<|Q1<|Qa (Zu j rfl)<|Qa (Qd (Ge (IntKind.wrap .i64 (b+1))) rfl)<|Qj ?_;exact ⟨h,(IntKind.wrap .i64 ((IntKind.wrap .i64 (256*d))+(IntKind.wrap .i64 o))),(IntKind.wrap .i64 (b+1)),t,e,l,rfl,rfl,(by rw [← n];exact a)⟩;refine Zp<|Qq<|Qq<|Zq<|Qe<|Qz<|Zj m<|Qa (Ja rfl rfl)<|Qa (Qf (Ge (IntKind.wrap .i64 (d-140737488355328))) rfl)<|Qj ?_;cases a;exact Q2 (Yn rfl rfl ⟨rfl,e.kept⟩)
def qbb (fu:Nat) (c:ByteArray) (d:Int) (e:Int) (f:Int):Nat→GFrame→Int→Option (GFrame × Int)
 | 0,_,_=>none
 | n+1,a,b=>(bif decide (b<(IntKind.wrap .i64 f)) then (qjv c (IntKind.wrap .i64 ((IntKind.wrap .i64 ((IntKind.wrap .i64 (d+(IntKind.wrap .i64 (1+(IntKind.wrap .i64 e)))))+1))+(IntKind.wrap .i64 (7*b))))).bind fun i=>(app a.at_ ([IntKind.wrap .i64 i]:List Int)).bind fun j=>(some ({ a with at_:=j }:GFrame)).bind fun g=>(qr4 c (some (IntKind.wrap .i64 ((IntKind.wrap .i64 ((IntKind.wrap .i64 (d+(IntKind.wrap .i64 (1+(IntKind.wrap .i64 e)))))+2))+(IntKind.wrap .i64 (7*b))))) none).bind fun k=>(qn3 fu k).bind fun l=>(app g.vals ([l]:List Int)).bind fun m=>(some ({ g with vals:=m }:GFrame)).bind fun o=>(qbb fu c d e f n) o (IntKind.wrap .i64 (b+1)) else (some (qaf a)).bind fun p=>(bif p != 0 then (qhk fu).bind fun h=>(some h.1).bind fun q=>some (q,h.2) else (some a).bind fun r=>some (r,0)))
def qbc (fu:Nat) (a:ByteArray) (b:Int) (f:Int):Nat→GFrame→Int→Option (GFrame × Int)
 | 0,_,_=>none
 | n+1,d,e=>(bif decide (e<(IntKind.wrap .i64 f)) then (qjv a (IntKind.wrap .i64 ((IntKind.wrap .i64 (b+1))+e))).bind fun h=>(app d.deps ([IntKind.wrap .i64 h]:List Int)).bind fun i=>(some ({ d with deps:=i }:GFrame)).bind fun j=>(qbc fu a b f n) j (IntKind.wrap .i64 (e+1)) else (qjv a b).bind fun c=>(qjv a (IntKind.wrap .i64 (b+(IntKind.wrap .i64 (1+(IntKind.wrap .i64 c)))))).bind fun k=>(bif (a.size:Int) != (IntKind.wrap .i64 ((IntKind.wrap .i64 ((IntKind.wrap .i64 (b+(IntKind.wrap .i64 (1+(IntKind.wrap .i64 c)))))+1))+(IntKind.wrap .i64 (7*(IntKind.wrap .i64 k))))) then (qhk fu).bind fun g=>(some g.1).bind fun l=>some (l,g.2) else (qjv a (IntKind.wrap .i64 (b+(IntKind.wrap .i64 (1+(IntKind.wrap .i64 c)))))).bind fun m=>qbb fu a b c m fu d 0))
def qgw (fu:Nat) (a:ByteArray) (c:GFrame) (b:Int) (e:GFrame):Option (GFrame × Int):=(qjv a b).bind fun d=>qbc fu a b d fu c 0
def qep (fu:Nat) (b:ByteArray) (c:GFrame) (d:GFrame) (e:Int) (f:Bool):Option (GFrame × Int):=(bif f then (qhk fu).bind fun a=>(some a.1).bind fun g=>some (g,a.2) else qgw fu b c e d)
def qbd (fu:Nat) (a:ByteArray) (e:Int):Nat→GFrame→GFrame→Int→Int→Option (GFrame × Int)
 | 0,_,_,_,_=>none
 | n+1,c,d,b,f=>(bif decide (f<(IntKind.wrap .i64 e)) then (bif decide ((a.size:Int)<(IntKind.wrap .i64 (b+8))) then (qhk fu).bind fun g=>(some g.1).bind fun h=>some (h,g.2) else (qjv a b).bind fun i=>(qjv a (IntKind.wrap .i64 (b+1))).bind fun j=>(qr4 a (some (IntKind.wrap .i64 (b+2))) none).bind fun k=>(qn3 fu k).bind fun l=>(some ({ kind:=IntKind.wrap .i64 i,key:=IntKind.wrap .i64 j,n:=l }:GOp)).bind fun m=>(app c.ops ([m]:List GOp)).bind fun o=>(some ({ c with ops:=o }:GFrame)).bind fun p=>(qbd fu a e n) p d (IntKind.wrap .i64 (b+8)) (IntKind.wrap .i64 (f+1))) else (bif decide ((a.size:Int)≤b) then qep fu a c d b true else (qjv a b).bind fun q=>qep fu a c d b (decide ((a.size:Int)≤(IntKind.wrap .i64 ((IntKind.wrap .i64 (b+1))+(IntKind.wrap .i64 q)))))))
def qe9 (fu:Nat) (a:ByteArray):Option (GFrame × Int):=(bif decide ((a.size:Int)<6) then (qhk fu).bind fun b=>(some b.1).bind fun c=>some (c,b.2) else (qjv a 0).bind fun d=>(qjv a 1).bind fun e=>(qjv a 2).bind fun f=>(some ({ kind:=IntKind.wrap .i64 d,node:=IntKind.wrap .i64 e,id:=IntKind.wrap .i64 f,ops:=Zr.zd,deps:=Zr.zd,at_:=Zr.zd,vals:=Zr.zd }:GFrame)).bind fun g=>(some g).bind fun h=>(qjv a 3).bind fun i=>qbd fu a i fu h (Zr.zd:GFrame) 4 0)
theorem qoz {e:ByteArray} {r:GFrame × Int} (hA:Agree M w)  (a:qe9 fu e=some r) :
    Calls Tryz.prog 26 #[.string e] w (Gives M w (fun y u=>∃ i,u= .tuple #[Gf i,Ge r.2]∧rep y i r.1)):=by
 refine Zm Tryz.func26 167 fun T hT=>?_;have az:T 0= .string e:=hT 0;have b:Gi w M [] w:=Zt hA;rw [qe9] at a;refine Qz ?_;refine Ql (Zn q59 b ?_);intro b3 _ _ b;have a8:rep M (Zr.zc GFrame) (Zr.zd:GFrame):=Zr.zr;refine Qa (Qf (Ge 0) rfl)<|Qj<|Qz<|Qa (Qf (evT (fun _=>undef) (.func 51)) rfl)<|Qj<|Qu<|Qz<|Zj az<|Qa (Vg Qr rfl)<|Qa (Zw rfl rfl)<|Qj ?_;refine Q4 a rfl (fun e3 a=>?_) fun e3 a=>?_;refine Qz<|Qa (Qd (evT (fun _=>undef) (.func 51)) rfl) ?_;obtain ⟨r8,e4,a⟩:=Qc a;refine Ql (Js rfl (Yh (vs:=[]) (rv:=(fun y u=>∃ i,u= .tuple #[Gf i,Ge r8.2]∧rep y i r8.1)) zer q4o b (qi8 b.agree e4)) ?_);intro _ _ _ dp e5 b;obtain ⟨e6,e7,dq⟩:=e5;subst e7;replace a8:=Zg dp a8;refine Qa (Q3 (v:= Gf e6) rfl rfl)<|Qa (Q3 (v:= Ge r8.2) rfl rfl) ?_;obtain ⟨_,e8,a⟩:=Qc a;refine Ql (Z8 0 7 b a8 dq (Lf (rr a8) dq) e8 ?_);intro _ _ dr _ _ b;refine Qa (Qf (Ge r8.2) rfl)<|Qj ?_;cases a;exact Q2 (U6 (j:=0) rfl rfl rfl (Vz Jh dr) b rfl (Zc b dp ⟨_,rfl,dr⟩));refine Qk<|Qe<|Qu<|Ys [] [] Z6 b fun jr b ds ab=>Qw 0 rfl (Qd _ az) ab ?_;obtain ⟨a9,e9,a⟩:=Qc a;refine Qw 1 rfl (Jr Qr rfl rfl e9) ab<|Qw 2 rfl (Va ⟨_,Za⟩ Zd rfl) ab<|Qw 3 rfl (Qd _ az) ab ?_;obtain ⟨ba,fa,a⟩:=Qc a;refine Qw 4 rfl (Jr Qr rfl rfl fa) ab<|Qw 5 rfl (Va ⟨_,Za⟩ Zd rfl) ab<|Qw 6 rfl (Qd _ az) ab ?_;obtain ⟨bb,fb,a⟩:=Qc a;refine Qw 7 rfl (Jr Qr rfl rfl fb) ab<|Qw 8 rfl (Va ⟨_,Za⟩ Zd rfl) ab ?_;have dt:=Ka (Zr.zr:rep M (Zr.zc GFrame) (Zr.zd:GFrame)) (ri (IntKind.wrap .i64 a9):rep M _ _);have du:=Kb dt (ri (IntKind.wrap .i64 ba):rep M _ _);have fc:=Kc du (ri (IntKind.wrap .i64 bb):rep M _ _);obtain ⟨fd,fe,a⟩:=Qc a;obtain ⟨bs,bc,dv⟩:∃ cs,qay (([(0,1),(1,1),(2,1),(3,1),(4,1),(5,1),(6,1)]:List (Nat × Nat))[·]?) (Zr.zc GFrame) [(0,Ge (IntKind.wrap .i64 a9)),(1,Ge (IntKind.wrap .i64 ba)),(2,Ge (IntKind.wrap .i64 bb))]=some cs∧rep M cs fd:=⟨_,(Zf (Zr.zr:rep M (Zr.zc GFrame) (Zr.zd:GFrame)) rfl rfl (Xx (ri (IntKind.wrap .i64 a9):rep M _ _)) E9 (Zf dt rfl rfl (Xx (ri (IntKind.wrap .i64 ba):rep M _ _)) E9 (Zf du rfl rfl (Xx (ri (IntKind.wrap .i64 bb):rep M _ _)) E9 Yd))),Ye (x:=({ kind:=IntKind.wrap .i64 a9,node:=IntKind.wrap .i64 ba,id:=IntKind.wrap .i64 bb,ops:=Zr.zd,deps:=Zr.zd,at_:=Zr.zd,vals:=Zr.zd }:GFrame)) fc fe⟩;have ff:sl bs 3 1=[.slice none 0 0]:=(Y5 bc (by rfl)).trans (by rfl);replace b:=b.nilRow 99 3;have fg:sl bs 4 1=[.slice none 0 0]:=(Y5 bc (by rfl)).trans (by rfl);replace b:=b.nilRow 3 1;have fh:sl bs 5 1=[.slice none 0 0]:=(Y5 bc (by rfl)).trans (by rfl);replace b:=b.nilRow 3 1;have fi:sl bs 6 1=[.slice none 0 0]:=(Y5 bc (by rfl)).trans (by rfl);replace b:=b.nilRow 3 1;refine Qw 9 rfl (Z0 [(0,Ge (IntKind.wrap .i64 a9)),(1,Ge (IntKind.wrap .i64 ba)),(2,Ge (IntKind.wrap .i64 bb))] Xj (Y3 rfl (Y3 rfl (Y3 rfl Vl))) bc) ab ?_;refine w1 10 rfl (Zn q59 b ?_);intro o _ _ b;have dw:rep M (Zr.zc GFrame) (Zr.zd:GFrame):=Zr.zr;have ju:sl (Zr.zc GFrame) 3 1=[.slice none 0 0]:=by rfl
 replace b:=b.nilRow 99 3;have jv:sl (Zr.zc GFrame) 4 1=[.slice none 0 0]:=by rfl
 replace b:=b.nilRow 3 1;have jw:sl (Zr.zc GFrame) 5 1=[.slice none 0 0]:=by rfl
 replace b:=b.nilRow 3 1;have jx:sl (Zr.zc GFrame) 6 1=[.slice none 0 0]:=by rfl
 replace b:=b.nilRow 3 1;refine Yj b ds fun jy=>?_;obtain ⟨fj,fk,a⟩:=Qc a;refine w1 11 rfl (Z8 4 7 b dw dv (Lf (rr dw) dv) fk ?_);intro bd _ fl _ bu b;have fm:sl bd (0+3) 1=[(.slice none 0 0)]:=V3 bu ff E9;have fn:sl bd (0+4) 1=[(.slice none 0 0)]:=V3 bu fg E9;have fo:sl bd (0+5) 1=[(.slice none 0 0)]:=V3 bu fh E9;have fp:sl bd (0+6) 1=[(.slice none 0 0)]:=V3 bu fi E9;refine Yj b ds fun j1=>wd<|Qe<|Qz<|Qa (Qf (Ge 4) rfl)<|Qj<|Qu<|Qz<|Zj az ?_;obtain ⟨cm,fq,a⟩:=Qc a;refine Qa (Jr Qr rfl rfl fq)<|Qa (Va ⟨_,Za⟩ Zd rfl)<|Qa (Qd (Ge 0) rfl)<|Qj<|Qs ?_;refine Zy (fun cn c t=>∃ g z a0 a1 a2 s ap af ag d be,Gh w M g∧Gi w g [.row (.slice none 0 0) 3 1,.row (.slice none 0 0) 3 1,.row (.slice none 0 0) 3 1,.row (.slice none 0 0) 99 3,Gk o z 82,.row ag 3 1,.row af 3 1,.row ap 3 1,.row s 99 3,Gk b3 a1 82] t∧rep g z a0∧rep g a1 a2∧sl z (0+3) 1=[s]∧sl z (0+4) 1=[ap]∧sl z (0+5) 1=[af]∧sl z (0+6) 1=[ag]∧c 0= .string e∧c 2=Gg b3∧c 4=evT (fun _=>undef) (.func 51)∧c 5=Gg o∧c 6=Ge d∧c 28=Ge (IntKind.wrap .i64 cm)∧c 29=Ge be∧qbd fu e cm cn a0 a2 d be=some r) fu ?_ ?_ ?_;exact ⟨M,bd,fj,(Zr.zc GFrame),(Zr.zd:GFrame),(.slice none 0 0),(.slice none 0 0),(.slice none 0 0),(.slice none 0 0),(4:Int),(0:Int),(Qb _ _ _),b,fl,a8,fm,fn,fo,fp,az,rfl,rfl,rfl,rfl,rfl,rfl,a⟩;rintro c t ⟨_,_,_,_,_,_,_,_,_,_,_,_,_,_,_,_,_,_,_,_,_,_,_,_,_,_,a⟩;rw [qbd] at a;cases a;intro cn;rintro _ _ ⟨g,z,a0,a1,a2,s,ap,af,ag,d,be,a3,b,ah,p,co,dx,dy,dz,ac,bg,bv,bh,ad,d0,d1,a⟩;rw [qbd] at a;obtain ⟨_,d2⟩:∃ f,f=qbd fu e cm cn:=⟨_,rfl⟩;rw [← d2] at a;refine Qz<|Qa (Zw d1 d0)<|Qj<|Qu ?_;refine Q4 a rfl (fun fr a=>?_) fun fr a=>?_;refine Qk<|Qe<|Qu<|Qs<|Qu<|Qz<|Zj ac<|Qa (Vg Qr rfl)<|Zj ad<|Qa (Zu rfl rfl)<|Qa (Zw rfl rfl)<|Qj ?_;refine Q4 a rfl (fun fs a=>?_) fun fs a=>?_;refine Qz<|Zj bv ?_;obtain ⟨bw,ft,a⟩:=Qc a;refine Ql (Js rfl (Yh (vs:=[]) (rv:=(fun y u=>∃ i,u= .tuple #[Gf i,Ge bw.2]∧rep y i bw.1)) zer q4o b (qi8 b.agree ft)) ?_);intro _ _ _ d3 fv b;obtain ⟨fw,fx,d4⟩:=fv;subst fx;replace p:=Zg d3 p;refine Qa (Q3 (v:= Gf fw) rfl rfl)<|Qa (Q3 (v:= Ge bw.2) rfl rfl) ?_;obtain ⟨_,fy,a⟩:=Qc a;refine Ql<|Z9 9 7 b rfl p bg rfl d4 rfl rfl (Lf (rr p) d4) fy fun j9 ka d5 kb kc b=>Qa (Qf (Ge bw.2) rfl)<|Qj ?_;cases a;exact Q2 (U6 (j:=9) rfl bg rfl (Vz Jh d5) b rfl (Zc b (a3.trans d3) ⟨_,rfl,d5⟩));refine Qk<|Qe<|Qu<|Ys [Gk o z 82] [20] Z6 b fun kd b cp m=>Qw 0 rfl (Qi V6 bh) m ?_;obtain ⟨_,fz,bx⟩:=(Y1 (rr ah));rw [Y6 fz co] at bx;refine Y4 1 rfl (Qh s Y9 rfl (Ym 0 rfl) co) m<|Qw 2 rfl (Qd _ ac) m<|Qw 3 rfl (Qd _ ad) m ?_;obtain ⟨bi,f0,a⟩:=Qc a;refine Qw 4 rfl (Jr Qr rfl rfl f0) m<|Qw 5 rfl (Va ⟨_,Za⟩ Zd rfl) m<|Qw 6 rfl (Qd _ ac) m<|Qw 7 rfl (Qd _ ad) m<|Qw 8 rfl (Zu rfl rfl) m ?_;obtain ⟨bj,f1,a⟩:=Qc a;refine Qw 9 rfl (Jr Qr rfl rfl f1) m<|Qw 10 rfl (Va ⟨_,Za⟩ Zd rfl) m<|Qw 11 rfl (Qd _ ac) m<|Qw 12 rfl (Qd _ ad) m<|Qw 13 rfl (Zu rfl rfl) m ?_;obtain ⟨f2,cq,a⟩:=Qc a;obtain ⟨⟨_,_⟩,f3,cq⟩:=Ak.1 cq;refine Qw 14 rfl ((cq ▸ Ul (l:=(some (IntKind.wrap .i64 (d+2)))) (h:=none) Qr rfl (evs rfl) evn f3)) m ?_;obtain ⟨a4,f4,a⟩:=Qc a;refine w1 15 rfl<|Zi (vs:=[.string f2]) (v:= Ge a4) cb52 (Zl rfl) b (qxd b.agree f4) fun kh b=>Yj b cp fun f5=>?_;have d6:=GOp.w0 (Zr.zr:rep g (Zr.zc GOp) (Zr.zd:GOp)) (ri (IntKind.wrap .i64 bi):rep g _ _);have d7:=GOp.w1 d6 (ri (IntKind.wrap .i64 bj):rep g _ _);have f6:=GOp.w2 d7 (ri a4:rep g _ _);obtain ⟨d8,f7,a⟩:=Qc a;obtain ⟨f8,ga,gb⟩:∃ cs,qay (([(0,1),(1,1),(2,1)]:List (Nat × Nat))[·]?) (Zr.zc GOp) [(0,Ge (IntKind.wrap .i64 bi)),(1,Ge (IntKind.wrap .i64 bj)),(2,Ge a4)]=some cs∧rep g cs d8:=⟨_,(Zf (Zr.zr:rep g (Zr.zc GOp) (Zr.zd:GOp)) rfl rfl (Xx (ri (IntKind.wrap .i64 bi):rep g _ _)) E9 (Zf d6 rfl rfl (Xx (ri (IntKind.wrap .i64 bj):rep g _ _)) E9 (Zf d7 rfl rfl (Xx (ri a4:rep g _ _)) E9 Yd))),Ye (x:=({ kind:=IntKind.wrap .i64 bi,key:=IntKind.wrap .i64 bj,n:=a4 }:GOp)) f6 f7⟩;refine Qw 16 rfl (Z0 [(0,Ge (IntKind.wrap .i64 bi)),(1,Ge (IntKind.wrap .i64 bj)),(2,Ge a4)] tb99 (Y3 rfl (Y3 rfl (Y3 rfl Vl))) ga) f5 ?_;refine w1 17 rfl (Zz (α := GOp) (l:=([d8]:List GOp)) [Gf f8] tl27 (Y3 rfl Vl) rfl rfl E9 E9 E9 b (Jj gb Jv) ?_);intro _ _ _ a5 gc b;replace bx:=Qo a5.1 bx;refine Yj b (cp.trans a5) fun kl=>?_;obtain ⟨_,ge,gf,a⟩:=Z1 a;refine w1 18 rfl (Yq (α := GOp) (j:=8) zaj b rfl rfl rfl bx gc ge ?_);intro gg gh _ bz b0 b;rw [← gf] at b0;replace ah:=Zg (a5.trans bz) ah;replace p:=Zg (a5.trans bz) p;refine Yj b (cp.trans (a5.trans bz)) fun gi=>Qw 19 rfl (Qi V6 bh) gi ?_;obtain ⟨gj,gk,a⟩:=Qc a;refine w1 20 rfl (Z9 4 1 b rfl ah rfl rfl (Qt b0) (Q8 b0) rfl (GFrame.u3 (rr ah) (Lf (Y1 (rr ah)) (Qt b0))) gk ?_);intro gl _ gm cr gn b;have go:=(cr E8).trans dx;have gp:=(cr E8).trans dy;have gq:=(cr E8).trans dz;have gr:=gn;refine ⟨nB,?_⟩;refine wd<|Qe<|Q1<|Zj ad<|Qa (Zu rfl rfl)<|Qa (Qf (Ge (IntKind.wrap .i64 (d+8))) rfl)<|Yk<|Q7<|Qe<|Q1<|Qa (Zu d1 rfl)<|Qa (Qd (Ge (IntKind.wrap .i64 (be+1))) rfl)<|Qj ?_;exact ⟨gh,gl,gj,a1,a2,gg,ap,af,ag,(IntKind.wrap .i64 (d+8)),(IntKind.wrap .i64 (be+1)),(a3.trans (a5.trans bz)),b,gm,p,gr,go,gp,gq,ac,bg,bv,bh,rfl,d0,rfl,(by rw [← d2];exact a)⟩;refine Zp<|Qq<|Qq<|Zq<|Qe ?_;refine Qp (fun c t=>∃ a6 bk ct,Gh w g a6∧Gi w a6 [.row (.slice none 0 0) 3 1,.row (.slice none 0 0) 3 1,.row (.slice none 0 0) 3 1,.row (.slice none 0 0) 99 3,Gk o z 82,.row ag 3 1,.row af 3 1,.row ap 3 1,.row s 99 3,Gk b3 bk 82] t∧rep a6 bk ct∧c 0= .string e∧c 2=Gg b3∧c 4=evT (fun _=>undef) (.func 51)∧c 5=Gg o∧c 6=Ge d∧qgw fu e a0 d ct=some r) ?_ ?_;refine Qp (fun c t=>∃ b1 cu,Gh w g b1∧Gi w b1 [.row (.slice none 0 0) 3 1,.row (.slice none 0 0) 3 1,.row (.slice none 0 0) 3 1,.row (.slice none 0 0) 99 3,Gk o z 82,.row ag 3 1,.row af 3 1,.row ap 3 1,.row s 99 3,Gk b3 a1 82] t∧c 0= .string e∧c 2=Gg b3∧c 4=evT (fun _=>undef) (.func 51)∧c 5=Gg o∧c 6=Ge d∧c 78= .bool cu∧qep fu e a0 a2 d cu=some r) ?_ ?_;refine Q1<|Zj ac<|Qa (Vg Qr rfl)<|Zj ad<|Qa (q6e rfl rfl)<|Qa (Qd (.bool (decide ((e.size:Int)≤d))) rfl) ?_;rcases ic a with ⟨d9,a⟩ | ⟨d9,a⟩<;>rw [d9];refine Qv 11 rfl<|Qj ?_;exact ⟨g,true,(Qb _ _ _),b,ac,bg,bv,bh,ad,rfl,a⟩;refine Qg rfl rfl (Qd _ ac)<|Qg rfl rfl (Vg Qr rfl)<|Qg rfl rfl (Qd _ ad)<|Qg rfl rfl (Zu rfl rfl)<|Qg rfl rfl (Qd _ ac)<|Qg rfl rfl (Qd _ ad) ?_;obtain ⟨ea,gs,a⟩:=Qc a;refine Qg rfl rfl (Jr Qr rfl rfl gs)<|Qg rfl rfl (Va ⟨_,Za⟩ Zd rfl)<|Qg rfl rfl (Zu rfl rfl)<|Qg rfl rfl (q6e rfl rfl)<|Qa (Q5 (.bool (decide ((e.size:Int)≤(IntKind.wrap .i64 ((IntKind.wrap .i64 (d+1))+(IntKind.wrap .i64 ea)))))) rfl rfl)<|Qj ?_;exact ⟨g,(decide ((e.size:Int)≤(IntKind.wrap .i64 ((IntKind.wrap .i64 (d+1))+(IntKind.wrap .i64 ea))))),(Qb _ _ _),b,ac,bg,bv,bh,ad,rfl,a⟩;rintro _ _ ⟨b1,cu,cv,b,gt,cw,eb,gu,gv,gw,a⟩;replace p:=Zg cv p;rw [qep] at a;refine Q4 a gw (fun gx a=>?_) fun gx a=>?_;refine Qz<|Zj eb ?_;obtain ⟨b2,gy,a⟩:=Qc a;refine Ql (Js rfl (Yh (vs:=[]) (rv:=(fun y u=>∃ i,u= .tuple #[Gf i,Ge b2.2]∧rep y i b2.1)) zer q4o b (qi8 b.agree gy)) ?_);intro _ _ _ ec gz b;obtain ⟨g1,g2,ed⟩:=gz;subst g2;replace p:=Zg ec p;refine Qa (Q3 (v:= Gf g1) rfl rfl)<|Qa (Q3 (v:= Ge b2.2) rfl rfl) ?_;obtain ⟨_,g3,a⟩:=Qc a;refine Ql<|Z9 9 7 b rfl p cw rfl ed rfl rfl (Lf (rr p) ed) g3 fun kv kw ee kx ky b=>Qa (Qf (Ge b2.2) rfl)<|Qj ?_;cases a;exact Q2 (U6 (j:=9) rfl cw rfl (Vz Jh ee) b rfl (Zc b (a3.trans (cv.trans ec)) ⟨_,rfl,ee⟩));refine Qk<|Qe ?_;exact ⟨b1,a1,a2,cv,b,p,gt,cw,eb,gu,gv,a⟩;rintro _ _ ⟨a6,bk,ct,b4,b,q,ef,g4,g5,g6,eg,a⟩;replace ah:=Zg b4 ah;rw [qgw] at a;refine Qu<|Qz<|Zj ef<|Zj eg ?_;obtain ⟨cx,g7,a⟩:=Qc a;refine Qa (Jr Qr rfl rfl g7)<|Qa (Va ⟨_,Za⟩ Zd rfl)<|Qa (Qd (Ge 0) rfl)<|Qj<|Qs ?_;refine Zy (fun cy c t=>∃ aq ai b5 aj ar,Gh w a6 aq∧Gi w aq [.row (.slice none 0 0) 3 1,.row (.slice none 0 0) 3 1,.row (.slice none 0 0) 3 1,.row (.slice none 0 0) 99 3,Gk o ai 82,.row ag 3 1,.row af 3 1,.row aj 3 1,.row s 99 3,Gk b3 bk 82] t∧rep aq ai b5∧sl ai (0+3) 1=[s]∧sl ai (0+4) 1=[aj]∧sl ai (0+5) 1=[af]∧sl ai (0+6) 1=[ag]∧c 0= .string e∧c 2=Gg b3∧c 4=evT (fun _=>undef) (.func 51)∧c 5=Gg o∧c 6=Ge d∧c 86=Ge (IntKind.wrap .i64 cx)∧c 87=Ge ar∧qbc fu e d cx cy b5 ar=some r) fu ?_ ?_ ?_;exact ⟨a6,z,a0,ap,(0:Int),(Qb _ _ _),b,ah,co,dx,dy,dz,ef,g4,g5,g6,eg,rfl,rfl,a⟩;rintro c t ⟨_,_,_,_,_,_,_,_,_,_,_,_,_,_,_,_,_,_,_,a⟩;rw [qbc] at a;cases a;intro cy;rintro _ _ ⟨aq,ai,b5,aj,ar,bl,b,au,eh,c1,ei,ej,av,b6,c2,b7,b8,ek,c3,a⟩;replace q:=Zg bl q;rw [qbc] at a;obtain ⟨_,el⟩:∃ f,f=qbc fu e d cx cy:=⟨_,rfl⟩;rw [← el] at a;refine Qz<|Qa (Zw c3 ek)<|Qj<|Qu ?_;refine Q4 a rfl (fun g8 a=>?_) fun g8 a=>?_;refine Qk<|Qe<|Qu<|Qs<|Qz<|Zj c3<|Qa (Qf (Ge ar) rfl)<|Qj<|Ys [Gk o ai 82] [12] Z6 b fun k4 b em ak=>Qw 0 rfl (Qi Vv b7) ak ?_;obtain ⟨_,g9,b9⟩:=(Yl (rr au));rw [Y6 g9 c1] at b9;refine Y4 1 rfl (Qh aj Z2 rfl (Ym 0 rfl) c1) ak<|Qw 2 rfl (Qd _ av) ak<|Qw 3 rfl (Qd _ b8) ak<|Qw 4 rfl (Zu rfl rfl) ak<|Qw 5 rfl (Qd (Ge ar) rfl) ak<|Qw 6 rfl (Zu rfl rfl) ak ?_;obtain ⟨c4,ha,a⟩:=Qc a;refine Qw 7 rfl (Jr Qr rfl rfl ha) ak<|Qw 8 rfl (Va ⟨_,Za⟩ Zd rfl) ak ?_;refine w1 9 rfl (Zz (α := Int) (l:=([IntKind.wrap .i64 c4]:List Int)) [Ge (IntKind.wrap .i64 c4)] J4 (Y3 rfl Vl) rfl rfl E9 E9 E9 b (Jj (ri (IntKind.wrap .i64 c4):rep aq _ _) Jv) ?_);intro _ _ _ bm hb b;replace b9:=Qo bm.1 b9;refine Yj b (em.trans bm) fun k9=>?_;obtain ⟨_,hc,hd,a⟩:=Z1 a;refine w1 10 rfl (Yq (α := Int) (j:=7) Kv b rfl rfl rfl b9 hb hc ?_);intro he hf _ c5 ca b;rw [← hd] at ca;replace au:=Zg (bm.trans c5) au;refine Yj b (em.trans (bm.trans c5)) fun hg=>Qw 11 rfl (Qi Vv b7) hg ?_;obtain ⟨hh,hi,a⟩:=Qc a;refine w1 12 rfl (Z9 4 1 b rfl au rfl rfl (Qt ca) (Q8 ca) rfl (GFrame.u4 (rr au) (Lf (Yl (rr au)) (Qt ca))) hi ?_);intro hj _ hk c6 hl b;have hm:=(c6 E8).trans eh;have hn:=(c6 E8).trans ei;have ho:=(c6 E8).trans ej;have hp:=hl;refine ⟨nB,?_⟩;refine wd<|Q7<|Qe<|Q1<|Qa (Zu c3 rfl)<|Qa (Qd (Ge (IntKind.wrap .i64 (ar+1))) rfl)<|Qj ?_;exact ⟨hf,hj,hh,he,(IntKind.wrap .i64 (ar+1)),(bl.trans (bm.trans c5)),b,hk,hm,hp,hn,ho,av,b6,c2,b7,b8,ek,rfl,(by rw [← el];exact a)⟩;refine Zp<|Qq<|Qq<|Zq<|Qe<|Qz<|Zj b8<|Zj av<|Zj b8 ?_;obtain ⟨an,hq,a⟩:=Qc a;refine Qa (Jr Qr rfl rfl hq)<|Qa (Va ⟨_,Za⟩ Zd rfl)<|Qa (Zu rfl rfl)<|Qa (Zu rfl rfl)<|Qa (Qf (Ge (IntKind.wrap .i64 (d+(IntKind.wrap .i64 (1+(IntKind.wrap .i64 an)))))) rfl)<|Qj<|Qu<|Qz<|Zj av<|Qa (Vg Qr rfl)<|Qa (Qd (Ge (IntKind.wrap .i64 (d+(IntKind.wrap .i64 (1+(IntKind.wrap .i64 an)))))) rfl)<|Qa (Zu rfl rfl)<|Zj av<|Qa (Qd (Ge (IntKind.wrap .i64 (d+(IntKind.wrap .i64 (1+(IntKind.wrap .i64 an)))))) rfl) ?_;obtain ⟨_,hr,a⟩:=Qc a;refine Qa (Jr Qr rfl rfl hr)<|Qa (Va ⟨_,Za⟩ Zd rfl)<|Qa (q1j rfl rfl)<|Qa (Zu rfl rfl)<|Qa (Yi rfl rfl)<|Qj ?_;refine Q4 a rfl (fun hs a=>?_) fun hs a=>?_;refine Qz<|Zj c2 ?_;obtain ⟨cb,ht,a⟩:=Qc a;refine Ql (Js rfl (Yh (vs:=[]) (rv:=(fun y u=>∃ i,u= .tuple #[Gf i,Ge cb.2]∧rep y i cb.1)) zer q4o b (qi8 b.agree ht)) ?_);intro _ _ _ en hu b;obtain ⟨hv,hw,eo⟩:=hu;subst hw;replace q:=Zg en q;refine Qa (Q3 (v:= Gf hv) rfl rfl)<|Qa (Q3 (v:= Ge cb.2) rfl rfl) ?_;obtain ⟨_,hx,a⟩:=Qc a;refine Ql<|Z9 9 7 b rfl q b6 rfl eo rfl rfl (Lf (rr q) eo) hx fun lj lk ep ll lm b=>Qa (Qf (Ge cb.2) rfl)<|Qj ?_;cases a;exact Q2 (U6 (j:=9) rfl b6 rfl (Vz Jh ep) b rfl (Zc b (a3.trans (b4.trans (bl.trans en))) ⟨_,rfl,ep⟩));refine Qk<|Qe<|Qu<|Qz<|Zj av<|Qa (Qd (Ge (IntKind.wrap .i64 (d+(IntKind.wrap .i64 (1+(IntKind.wrap .i64 an)))))) rfl) ?_;obtain ⟨c7,hy,a⟩:=Qc a;refine Qa (Jr Qr rfl rfl hy)<|Qa (Va ⟨_,Za⟩ Zd rfl)<|Qa (Qd (Ge 0) rfl)<|Qj<|Qs ?_;refine Zy (fun c8 c t=>∃ bn k c9 aw ax al,Gh w aq bn∧Gi w bn [.row (.slice none 0 0) 3 1,.row (.slice none 0 0) 3 1,.row (.slice none 0 0) 3 1,.row (.slice none 0 0) 99 3,Gk o k 82,.row ax 3 1,.row aw 3 1,.row aj 3 1,.row s 99 3,Gk b3 bk 82] t∧rep bn k c9∧sl k (0+3) 1=[s]∧sl k (0+4) 1=[aj]∧sl k (0+5) 1=[aw]∧sl k (0+6) 1=[ax]∧c 0= .string e∧c 2=Gg b3∧c 4=evT (fun _=>undef) (.func 51)∧c 5=Gg o∧c 6=Ge (IntKind.wrap .i64 (d+(IntKind.wrap .i64 (1+(IntKind.wrap .i64 an)))))∧c 128=Ge (IntKind.wrap .i64 c7)∧c 129=Ge al∧qbb fu e d an c7 c8 c9 al=some r) fu ?_ ?_ ?_;exact ⟨aq,ai,b5,af,ag,(0:Int),(Qb _ _ _),b,au,eh,c1,ei,ej,av,b6,c2,b7,rfl,rfl,rfl,a⟩;rintro c t ⟨_,_,_,_,_,_,_,_,_,_,_,_,_,_,_,_,_,_,_,_,a⟩;rw [qbb] at a;cases a;intro c8;rintro _ _ ⟨bn,k,c9,aw,ax,al,cc,b,ao,da,db,cd,dc,dd,bo,er,ay,de,es,df,a⟩;replace q:=Zg cc q;rw [qbb] at a;obtain ⟨_,et⟩:∃ f,f=qbb fu e d an c7 c8:=⟨_,rfl⟩;rw [← et] at a;refine Qz<|Qa (Zw df es)<|Qj<|Qu ?_;refine Q4 a rfl (fun h0 a=>?_) fun h0 a=>?_;refine Qk<|Qe<|Qu<|Qs<|Qz<|Zj df<|Qa (Qf (Ge al) rfl)<|Qj<|Qu<|Ys [Gk o k 82] [13] Z6 b fun lq b eu ae=>Qw 0 rfl (Qi Kr ay) ae ?_;obtain ⟨_,h1,ce⟩:=(Y8 (rr ao));rw [Y6 h1 cd] at ce;refine Y4 1 rfl (Qh aw Z2 rfl (Ym 0 rfl) cd) ae<|Qw 2 rfl (Qd _ dd) ae<|Qw 3 rfl (Qd _ de) ae<|Qw 4 rfl (Zu rfl rfl) ae<|Qw 5 rfl (Qd (Ge al) rfl) ae<|Qw 6 rfl (q1j rfl rfl) ae<|Qw 7 rfl (Zu rfl rfl) ae ?_;obtain ⟨dg,h2,a⟩:=Qc a;refine Qw 8 rfl (Jr Qr rfl rfl h2) ae<|Qw 9 rfl (Va ⟨_,Za⟩ Zd rfl) ae ?_;refine w1 10 rfl (Zz (α := Int) (l:=([IntKind.wrap .i64 dg]:List Int)) [Ge (IntKind.wrap .i64 dg)] J4 (Y3 rfl Vl) rfl rfl E9 E9 E9 b (Jj (ri (IntKind.wrap .i64 dg):rep bn _ _) Jv) ?_);intro _ _ _ bp h3 b;replace ce:=Qo bp.1 ce;refine Yj b (eu.trans bp) fun lw=>?_;obtain ⟨_,h4,h5,a⟩:=Z1 a;refine w1 11 rfl (Yq (α := Int) (j:=6) Kv b rfl rfl rfl ce h3 h4 ?_);intro h6 h7 _ dh cf b;rw [← h5] at cf;replace ao:=Zg (bp.trans dh) ao;refine Yj b (eu.trans (bp.trans dh)) fun h8=>Qw 12 rfl (Qi Kr ay) h8 ?_;obtain ⟨_,h9,a⟩:=Qc a;refine w1 13 rfl (Z9 4 1 b rfl ao rfl rfl (Qt cf) (Q8 cf) rfl (GFrame.u5 (rr ao) (Lf (Y8 (rr ao)) (Qt cf))) h9 ?_);intro ia _ a7 di ib b;have ie:=(di E8).trans da;have ig:=(di E8).trans db;have ev:=(di E8).trans dc;have ih:=ib;refine ⟨nB,?_⟩;refine wd<|Qe<|Ys [Gk o ia 82] [13] Z6 b fun l1 b dj am=>Qw 0 rfl (Qi K8 ay) am ?_;obtain ⟨_,ii,cg⟩:=(Vm (rr a7));rw [Y6 ii ev] at cg;refine Y4 1 rfl (Qh ax Z2 rfl (Ym 0 rfl) ev) am<|Qw 2 rfl (Qd _ dd) am<|Qw 3 rfl (Qd _ de) am<|Qw 4 rfl (Zu rfl rfl) am<|Qw 5 rfl (Qd (Ge al) rfl) am<|Qw 6 rfl (q1j rfl rfl) am<|Qw 7 rfl (Zu rfl rfl) am ?_;obtain ⟨ij,dk,a⟩:=Qc a;obtain ⟨⟨_,_⟩,ik,dk⟩:=Ak.1 dk;refine Qw 8 rfl ((dk ▸ Ul (l:=(some (IntKind.wrap .i64 ((IntKind.wrap .i64 ((IntKind.wrap .i64 (d+(IntKind.wrap .i64 (1+(IntKind.wrap .i64 an)))))+2))+(IntKind.wrap .i64 (7*al)))))) (h:=none) Qr rfl (evs rfl) evn ik)) am ?_;obtain ⟨ch,il,a⟩:=Qc a;refine w1 9 rfl<|Zi (vs:=[.string ij]) (v:= Ge ch) cb52 (Zl rfl) b (qxd b.agree il) fun l5 b=>Yj b dj fun l6=>?_;refine w1 10 rfl (Zz (α := Int) (l:=([ch]:List Int)) [Ge ch] J4 (Y3 rfl Vl) rfl rfl E9 E9 E9 b (Jj (ri ch:rep h7 _ _) Jv) ?_);intro _ _ _ bq im b;replace cg:=Qo bq.1 cg;refine Yj b (dj.trans bq) fun ma=>?_;obtain ⟨_,io,ip,a⟩:=Z1 a;refine w1 11 rfl (Yq (α := Int) (j:=5) Kv b rfl rfl rfl cg im io ?_);intro iq ir _ dl ci b;rw [← ip] at ci;replace a7:=Zg (bq.trans dl) a7;refine Yj b (dj.trans (bq.trans dl)) fun iu=>Qw 12 rfl (Qi K8 ay) iu ?_;obtain ⟨iv,iw,a⟩:=Qc a;refine w1 13 rfl (Z9 4 1 b rfl a7 rfl rfl (Qt ci) (Q8 ci) rfl (GFrame.u6 (rr a7) (Lf (Vm (rr a7)) (Qt ci))) iw ?_);intro ix _ iy dm iz b;have i0:=(dm E8).trans ie;have i1:=(dm E8).trans ig;have i2:=(dm E8).trans ih;have i3:=iz;refine ⟨nB,?_⟩;refine wd<|Q7<|Qe<|Q1<|Qa (Zu df rfl)<|Qa (Qd (Ge (IntKind.wrap .i64 (al+1))) rfl)<|Qj ?_;exact ⟨ir,ix,iv,h6,iq,(IntKind.wrap .i64 (al+1)),(cc.trans (bp.trans (dh.trans (bq.trans dl)))),b,iy,i0,i1,i2,i3,dd,bo,er,ay,de,es,rfl,(by rw [← et];exact a)⟩;refine Zp<|Qq<|Qq<|Zq<|Qe<|Qu<|Qz ?_;have ew:=(rr ao);have me:sl (sl k (0) 7) 3 1=[s]:=(Vq E9).trans da;have mf:sl (sl k (0) 7) 4 1=[aj]:=(Vq E9).trans db;have mg:sl (sl k (0) 7) 5 1=[aw]:=(Vq E9).trans cd;have mh:sl (sl k (0) 7) 6 1=[ax]:=(Vq E9).trans dc;refine Qa (Zb Jh ay (b.bvB 4 rfl) (Xx ew)) ?_;obtain ⟨i4,i5,a⟩:=Q0 a;refine Ql<|Zi (vs:=[Gf (sl k (0) 7)]) (v:= Ge i4) zfq (Zl rfl) b (i5 ▸ (Xf b.agree ew)) fun mi b=>Qa (Yi rfl rfl)<|Qj ?_;refine Q4 a rfl (fun i6 a=>?_) fun i6 a=>?_;refine Qz<|Zj er ?_;obtain ⟨cj,i7,a⟩:=Qc a;refine Ql (Js rfl (Yh (vs:=[]) (rv:=(fun y u=>∃ i,u= .tuple #[Gf i,Ge cj.2]∧rep y i cj.1)) zer q4o b (qi8 b.agree i7)) ?_);intro _ _ _ ex i8 b;obtain ⟨i9,ja,ey⟩:=i8;subst ja;replace q:=Zg ex q;refine Qa (Q3 (v:= Gf i9) rfl rfl)<|Qa (Q3 (v:= Ge cj.2) rfl rfl) ?_;obtain ⟨_,jb,a⟩:=Qc a;refine Ql<|Z9 9 7 b rfl q bo rfl ey rfl rfl (Lf (rr q) ey) jb fun mn mo ez mp mq b=>Qa (Qf (Ge cj.2) rfl)<|Qj ?_;cases a;exact Q2 (U6 (j:=9) rfl bo rfl (Vz Jh ez) b rfl (Zc b (a3.trans (b4.trans (bl.trans (cc.trans ex)))) ⟨_,rfl,ez⟩));refine Qk<|Qe<|Qz ?_;have dn:=(rr ao);have jc:sl (sl k (0) 7) 3 1=[s]:=(Vq E9).trans da;have jd:sl (sl k (0) 7) 4 1=[aj]:=(Vq E9).trans db;have je:sl (sl k (0) 7) 5 1=[aw]:=(Vq E9).trans cd;have jf:sl (sl k (0) 7) 6 1=[ax]:=(Vq E9).trans dc;refine Qa (Zb Jh ay (b.bvB 4 rfl) (Xx dn)) ?_;obtain ⟨_,jg,a⟩:=Qc a;refine Ql (Z9 9 7 b rfl q bo rfl dn rfl rfl (Lf (rr q) dn) jg ?_);intro ck _ e0 _ cl b;have mu:sl ck (0+3) 1=[s]:=V3 cl jc E9;have mv:sl ck (0+4) 1=[aj]:=V3 cl jd E9;have mw:sl ck (0+5) 1=[aw]:=V3 cl je E9;have mx:sl ck (0+6) 1=[ax]:=V3 cl jf E9;refine Qa (Qf (Ge 0) rfl)<|Qj ?_;cases a;exact Q2 (U6 (j:=9) rfl bo rfl (Vz Jh e0) b rfl (Zc b (a3.trans (b4.trans (bl.trans cc))) ⟨_,rfl,e0⟩))
theorem qfa {s:ByteArray} {n k:Nat} {y c:Int} (hk:k<6) (h0:0≤y) (h1:y<1099511627776) (hc:(byL s)[k]? = some c) (h2:0≤c) (h3:c<256):qbj s (n+1) y k=qbj s n (y*256+c) ((k+1:Nat):Int):=by
 rw [qbj,qae (qac E8),qml,hc,qaa,qa2 (x:=256*y) E8 E8,qa2 (x:=c) E8 E8,qa2 (x:=256*y+c) E8 E8,qa2 (x:=(k:Int)+1) E8 E8,Int.mul_comm 256 y];rfl
theorem qu9 {s:ByteArray} {fu:Nat} (hf:8≤fu) {a b c d e f:Int} {t:List Int} (h:byL s=a::b::c::d::e::f::t):qn3 fu s=some (q6a a b c d e f):=by
 have hr:∀ z∈[a,b,c,d,e,f],0≤z∧z<256:=fun z hz=>qde (s:=s) (by rw [h];simp at hz ⊢;rcases hz with rfl | rfl | rfl | rfl | rfl | rfl<;>simp);have ha:=hr a (by simp);have hb:=hr b (by simp);have hc:=hr c (by simp);have hd:=hr d (by simp);have he:=hr e (by simp);have hff:=hr f (by simp);obtain ⟨n,rfl⟩:∃ n,fu=n+7:=⟨fu-7,by omega⟩;have e0:qbj s (n+7) 0 0=_:=qfa (s:=s) (n:=n+6) (k:=0) (y:=0) (c:=a) E8 E8 E8 (by rw [h];rfl) ha.1 ha.2;have e1:=qfa (s:=s) (n:=n+5) (k:=1) (y:=0*256+a) (c:=b) E8 E8 E8 (by rw [h];rfl) hb.1 hb.2;have e2:=qfa (s:=s) (n:=n+4) (k:=2) (y:=(0*256+a)*256+b) (c:=c) E8 E8 E8 (by rw [h];rfl) hc.1 hc.2;have e3:=qfa (s:=s) (n:=n+3) (k:=3) (y:=((0*256+a)*256+b)*256+c) (c:=d) E8 E8 E8 (by rw [h];rfl) hd.1 hd.2;have e4:=qfa (s:=s) (n:=n+2) (k:=4) (y:=(((0*256+a)*256+b)*256+c)*256+d) (c:=e) E8 E8 E8 (by rw [h];rfl) he.1 he.2;have e5:=qfa (s:=s) (n:=n+1) (k:=5) (y:=((((0*256+a)*256+b)*256+c)*256+d)*256+e) (c:=f) E8 E8 E8 (by rw [h];rfl) hff.1 hff.2;unfold qn3;rw [e0];have e1:qbj s (n+6) (0*256+a) ((0+1:Nat):Int)=_:=e1;rw [e1];have e2:qbj s (n+5) _ ((1+1:Nat):Int)=_:=e2;rw [e2];have e3:qbj s (n+4) _ ((2+1:Nat):Int)=_:=e3;rw [e3];have e4:qbj s (n+3) _ ((3+1:Nat):Int)=_:=e4;rw [e4];have e5:qbj s (n+2) _ ((4+1:Nat):Int)=_:=e5;rw [e5,qbj,qad (by rfl),qa2 E8 E8];unfold q6a;rw [Int.zero_mul,D0]
theorem qhl {fu:Nat}:qhk fu=some (noF,1):=rfl
theorem qyy:∀ (n:Nat) (u:List Int) (z:List Int × List Int × List Int),qrk n u=some z→u.length=7*n+z.2.2.length
 | 0,u,z,h=>by simp [qrk] at h;rw [← h];simp
 | n+1,u,z,h=>by
  by_cases h7:u.length<7
  ·match u,h7 with
   | [],_=>simp [qrk] at h
   | [_],_=>simp [qrk] at h
   | [_,_],_=>simp [qrk] at h
   | [_,_,_],_=>simp [qrk] at h
   | [_,_,_,_],_=>simp [qrk] at h
   | [_,_,_,_,_],_=>simp [qrk] at h
   | [_,_,_,_,_,_],_=>simp [qrk] at h
   | _::_::_::_::_::_::_::_,h=>simp at h;omega
  ·match u,h7 with
   | [],h=>simp at h
   | [_],h=>simp at h
   | [_,_],h=>simp at h
   | [_,_,_],h=>simp at h
   | [_,_,_,_],h=>simp at h
   | [_,_,_,_,_],h=>simp at h
   | [_,_,_,_,_,_],h=>simp at h
   | k::a::b::c::d::e::f::t,_ =>
    rw [qrk] at h;cases hp:qrk n t with
    | none=>rw [hp] at h;cases h
    | some p =>
     rw [hp] at h;simp only [Option.map_some,Option.some.injEq] at h;have:=qyy n t p hp;rw [← h];simp only [X9];omega
theorem q02:∀ (n:Nat) (u:List Int),7*n≤u.length→∃ z,qrk n u=some z
 | 0,u,_=>⟨_,rfl⟩
 | n+1,u,h=>by
  match u,h with
  | [],h=>simp at h
  | [_],h=>simp at h;omega
  | [_,_],h=>simp at h;omega
  | [_,_,_],h=>simp at h;omega
  | [_,_,_,_],h=>simp at h;omega
  | [_,_,_,_,_],h=>simp at h;omega
  | [_,_,_,_,_,_],h=>simp at h;omega
  | k::a::b::c::d::e::f::t,h =>
   obtain ⟨z,hz⟩:=q02 n t (by simp at h;omega);exact ⟨_,by rw [qrk,hz];rfl⟩
section
variable {fu:Nat} {s:ByteArray}
theorem qva {p j:Nat} {u:List Int} (hu:(byL s).drop p=u) {c:Int} (hc:u[j]? = some c):qjv s ((p+j:Nat):Int)=some c:=by
 rw [qml,← hc,← hu,De]
theorem qxe (hf:20≤fu) {p nd na:Nat} {u:List Int} (hp:p≤5000) (hnd:nd<256) (hna:na<256) (hu:(byL s).drop (p+(1+nd)+1)=u) (hul:u.length=7*na):∀ (q m j:Nat) (d:GFrame),j+m=na→m<q→d.at_.length=j→d.vals.length=j →
 ∀ ats vs,qrk m (u.drop (7*j))=some (ats,vs,[])→qbb fu s p nd na q d j=some (bif qaf { d with at_:=d.at_++ats,vals:=d.vals++vs }==0 then ({ d with at_:=d.at_++ats,vals:=d.vals++vs },0) else (noF,1))
 | 0,m,j,d,_,h,_,_,_,_,_=>absurd h E8
 | q+1,0,j,d,hj,_,_,_,ats,vs,hz=>by
  rw [qrk] at hz;simp only [Option.some.injEq,Prod.mk.injEq] at hz;obtain ⟨rfl,rfl,_⟩:=hz;rw [qbb,qa2 (x:=(na:Int)) E8 E8,qad (qab E8),qaa];have e:({ d with at_:=d.at_++[],vals:=d.vals++[] }:GFrame)=d:=by simp
  rw [e];by_cases h:qaf d=0
  ·rw [h];rfl
  ·have e1:(qaf d != 0)=true:=by simp [h]
   have e2:(qaf d==0)=false:=by simp [h]
   rw [e1,e2];rfl
 | q+1,m+1,j,d,hj,hq,hda,hdv,ats,vs,hz=>by
  have hlen:(u.drop (7*j)).length=7*(m+1):=by rw [List.length_drop];omega
  obtain ⟨k,a,b,c,e,f,g,t,ht⟩:∃ k a b c e f g t,u.drop (7*j)=k::a::b::c::e::f::g::t:=by
   match u.drop (7*j),hlen with
   | [],h=>simp at h
   | [_],h=>simp at h;omega
   | [_,_],h=>simp at h;omega
   | [_,_,_],h=>simp at h;omega
   | [_,_,_,_],h=>simp at h;omega
   | [_,_,_,_,_],h=>simp at h;omega
   | [_,_,_,_,_,_],h=>simp at h;omega
   | k::a::b::c::e::f::g::t,_=>exact ⟨k,a,b,c,e,f,g,t,rfl⟩
  have hd2:u.drop (7*(j+1))=t:=by
   have:=congrArg (List.drop 7) ht;rw [Be] at this;rw [show 7*(j+1)=7*j+7 from by omega,this];rfl
  rw [ht,qrk] at hz;cases hp2:qrk m t with
  | none=>rw [hp2] at hz;cases hz
  | some z =>
   rw [hp2] at hz;simp only [Ac,Option.some.injEq,Prod.mk.injEq] at hz;obtain ⟨rfl,rfl,hz3⟩:=hz;have hdrop:(byL s).drop (p+(1+nd)+1+7*j)=k::a::b::c::e::f::g::t:=by rw [← ht,← hu,Be]
   have w0:IntKind.wrap .i64 (nd:Int)=(nd:Int):=qa2 E8 E8;have w1:IntKind.wrap .i64 (1+(nd:Int))=((1+nd:Nat):Int):=by rw [qa2 E8 E8];omega
   have w2:IntKind.wrap .i64 ((p:Int)+((1+nd:Nat):Int))=((p+(1+nd):Nat):Int):=by rw [qa2 E8 E8];omega
   have w3:IntKind.wrap .i64 (((p+(1+nd):Nat):Int)+1)=((p+(1+nd)+1:Nat):Int):=by rw [qa2 E8 E8];omega
   have w4:IntKind.wrap .i64 (7*(j:Int))=((7*j:Nat):Int):=by rw [qa2 E8 E8];omega
   have w5:IntKind.wrap .i64 (((p+(1+nd)+1:Nat):Int)+((7*j:Nat):Int))=((p+(1+nd)+1+7*j:Nat):Int):=by rw [qa2 E8 E8];omega
   have w6:IntKind.wrap .i64 (((p+(1+nd):Nat):Int)+2)=((p+(1+nd)+2:Nat):Int):=by rw [qa2 E8 E8];omega
   have w7:IntKind.wrap .i64 (((p+(1+nd)+2:Nat):Int)+((7*j:Nat):Int))=((p+(1+nd)+2+7*j:Nat):Int):=by rw [qa2 E8 E8];omega
   have w8:IntKind.wrap .i64 ((j:Int)+1)=((j+1:Nat):Int):=by rw [qa2 E8 E8];omega
   have hk:qjv s ((p+(1+nd)+1+7*j:Nat):Int)=some k:=qva (p:=p+(1+nd)+1+7*j) (j:=0) hdrop rfl;have hkr:0≤k∧k<256:=qde (s:=s) (B0 (by rw [hdrop];exact X2));have hbl:=qgl s;have hsz:p+(1+nd)+2+7*j≤s.size:=by
    have:=congrArg List.length hdrop;rw [Ay,hbl] at this;simp at this;omega
   obtain ⟨s',hs1,hs2⟩:=qye hsz;have hs3:byL s'=a::b::c::e::f::g::t:=by
    rw [hs2,show p+(1+nd)+2+7*j=p+(1+nd)+1+7*j+1 from by omega,← Be,hdrop];rfl
   rw [qbb,qa2 (x:=(na:Int)) E8 E8,qae (qac E8),w0,w1,w2,w3,w4,w5,w6,w7,w8,hk,qaa,qa2 (x:=k) E8 E8,
    qas (by have:Rep.bytes Int=8:=rfl;rw [this];simp;omega),qaa,qaa,hs1,qaa,qu9 E8 hs3,qaa,qas (by have:Rep.bytes Int=8:=rfl;rw [this];simp;omega),qaa,qaa]
   have ih:=qxe hf hp hnd hna hu hul q m (j+1) { d with at_:=d.at_++[k],vals:=d.vals++[q6a a b c e f g] } E8 E8 (by simp;omega) (by simp;omega) z.1 z.2.1 (by rw [hd2,hp2,← hz3]);rw [ih];simp []
theorem qxf (hf:300≤fu) {p nd:Nat} {r:List Int} (hp:p≤4000) (hnd:nd<256) (hsz:s.size≤140737488351232) (hr:(byL s).drop p=(nd:Int)::r) (hrl:nd<r.length):∀ (q m j:Nat) (d:GFrame),j+m=nd→m<q→d.deps=r.take j→d.at_=[]→d.vals=[] →
 qbc fu s p nd q d j=some (q80 (qz9 d.kind d.node d.id d.ops (r.take nd) (r.drop nd)))
 | 0,m,j,d,_,h,_,_,_=>absurd h E8
 | q+1,0,j,d,hj,_,hdd,ha,hv=>by
  have hj:j=nd:=by omega
  subst hj;have hbl:=qgl s;have hlen:=congrArg List.length hr;rw [List.length_drop,hbl,List.length_cons] at hlen;obtain ⟨na,u,hu⟩:∃ na u,r.drop j=na::u:=by
   rw [X4 hrl];exact ⟨_,_,rfl⟩
  have hul:=congrArg List.length hu;rw [Ay,X9] at hul;have hpos:qjv s (p:Int)=some (j:Int):=by
   have:=qva (s:=s) (p:=p) (j:=0) hr rfl;rwa [B9] at this
  have hdr:(byL s).drop (p+(1+j))=na::u:=by
   rw [← hu,← Be,hr,show 1+j=j+1 from by omega,List.drop_succ_cons]
  have hna:qjv s ((p+(1+j):Nat):Int)=some na:=by
   have:=qva (s:=s) (p:=p+(1+j)) (j:=0) hdr rfl;rwa [B9] at this
  have hnar:0≤na∧na<256:=qde (s:=s) (B0 (by rw [hdr];exact X2));have hdr2:(byL s).drop (p+(1+j)+1)=u:=by rw [← Be,hdr];rfl
  have w0:IntKind.wrap .i64 (j:Int)=(j:Int):=qa2 E8 E8;have w1:IntKind.wrap .i64 (1+(j:Int))=((1+j:Nat):Int):=by rw [qa2 E8 E8];omega
  have w2:IntKind.wrap .i64 ((p:Int)+((1+j:Nat):Int))=((p+(1+j):Nat):Int):=by rw [qa2 E8 E8];omega
  have w3:IntKind.wrap .i64 (((p+(1+j):Nat):Int)+1)=((p+(1+j)+1:Nat):Int):=by rw [qa2 E8 E8];omega
  have hnn:na=((na.toNat:Nat):Int):=by omega
  generalize na.toNat=nb at hnn;subst hnn;have w4:IntKind.wrap .i64 (nb:Int)=(nb:Int):=qa2 E8 E8;have w5:IntKind.wrap .i64 (7*(nb:Int))=((7*nb:Nat):Int):=by rw [qa2 E8 E8];omega
  have w6:IntKind.wrap .i64 (((p+(1+j)+1:Nat):Int)+((7*nb:Nat):Int))=((p+(1+j)+1+7*nb:Nat):Int):=by rw [qa2 E8 E8];omega
  rw [qbc,w0,qad (qab E8),hpos,qaa,w0,w1,w2,hna,qaa,w3,w4,w5,w6,qaa,hu];have htn:((nb:Int)).toNat=nb:=rfl;by_cases h7:u.length=7*nb
  ·rw [qad (by simp;omega)];obtain ⟨z,hz⟩:=q02 nb u E8;have hzl:=qyy nb u z hz;obtain ⟨z1,z2,z3⟩:=z;have hz3:z3=[]:=Av.1 (by simp at hzl;omega);subst hz3;have h3:=qxe (fu:=fu) (s:=s) E8 (p:=p) (nd:=j) (na:=nb) (u:=u) E8 E8 E8 hdr2 h7 fu nb 0 d E8 E8 (by rw [ha];rfl) (by rw [hv];rfl) z1 z2 (by simpa using hz);have h3:qbb fu s p j nb fu d 0=_:=h3;rw [h3,qz9,htn,hz,ha,hv,Am,Am,← hdd];rfl
  ·rw [qae (by simp;omega)];rw [qhl,qaa,qaa,qz9,htn];cases hz:qrk nb u with
   | none=>rfl
   | some z =>
    have hzl:=qyy nb u z hz;obtain ⟨z1,z2,z3⟩:=z;cases z3 with
    | nil=>simp at hzl;omega
    | cons _ _=>rfl
 | q+1,m+1,j,d,hj,hq,hdd,ha,hv=>by
  have hlt:j<r.length:=by omega
  have hc:qjv s ((p+1+j:Nat):Int)=some r[j]:=by
   have:=qva (s:=s) (p:=p) (j:=j+1) hr (c:=r[j]) (by simp);rwa [show p+(j+1)=p+1+j from by omega] at this
  have hcr:0≤r[j]∧r[j]<256:=qde (s:=s) (B0 (by rw [hr];exact X0 _ (At _)));have w0:IntKind.wrap .i64 (nd:Int)=(nd:Int):=qa2 E8 E8;have w1:IntKind.wrap .i64 ((p:Int)+1)=((p+1:Nat):Int):=by rw [qa2 E8 E8];omega
  have w2:IntKind.wrap .i64 (((p+1:Nat):Int)+(j:Int))=((p+1+j:Nat):Int):=by rw [qa2 E8 E8];omega
  have w3:IntKind.wrap .i64 ((j:Int)+1)=((j+1:Nat):Int):=by rw [qa2 E8 E8];omega
  have hdl:d.deps.length≤300:=by rw [hdd,Bn];omega
  rw [qbc,w0,qae (qac E8),w1,w2,hc,qaa,qa2 (x:=r[j]) E8 E8,qas (by have:Rep.bytes Int=8:=rfl;rw [this];simp;omega),qaa,qaa,w3];exact qxf hf hp hnd hsz hr hrl q m (j+1) { d with deps:=d.deps++[r[j]] } E8 E8 (by rw [hdd];exact (B8 hlt).symm) ha hv
theorem qxg (hf:300≤fu) (hsz:s.size≤140737488351232) {no:Nat} (hno:no<256) {d57:GFrame}:∀ (q m i:Nat) (d:GFrame),i+m=no→m<q→4+8*i≤s.size→d.ops.length=i→d.deps=[]→d.at_=[]→d.vals=[] →
 qbd fu s no q d d57 ((4+8*i:Nat):Int) i=some (q80 ((q38 m ((byL s).drop (4+8*i))).bind fun p=>q2m d.kind d.node d.id (d.ops++p.1) p.2))
 | 0,m,i,d,_,h,_,_,_,_,_=>absurd h E8
 | q+1,0,i,d,hi,_,hs,ho,hdd,ha,hv=>by
  have hbl:=qgl s;have w0:IntKind.wrap .i64 (no:Int)=(no:Int):=qa2 E8 E8;rw [qbd,w0,qad (qab E8),q38];simp only [Option.bind_some,List.append_nil];unfold qep qgw;generalize hp:4+8*i=p at hs ⊢;have hlen:((byL s).drop p).length=s.size-p:=by rw [List.length_drop,hbl]
  cases hr:(byL s).drop p with
  | nil =>
   rw [hr] at hlen;simp at hlen;rw [qae (qac E8),qae rfl,qhl,qaa,qaa];rfl
  | cons nd r =>
   rw [hr,List.length_cons] at hlen;have hndr:0≤nd∧nd<256:=qde (s:=s) (List.mem_of_mem_drop (by rw [hr];exact List.mem_cons_self));have hnn:nd=((nd.toNat:Nat):Int):=by omega
   generalize nd.toNat=nb at hnn;subst hnn;have hidx:qjv s (p:Int)=some (nb:Int):=by
    have:=qva (s:=s) (p:=p) (j:=0) hr rfl;rwa [B9] at this
   have w1:IntKind.wrap .i64 ((p:Int)+1)=((p+1:Nat):Int):=by rw [qa2 E8 E8];omega
   have w2:IntKind.wrap .i64 (((p+1:Nat):Int)+IntKind.wrap .i64 (nb:Int))=((p+1+nb:Nat):Int):=by rw [qa2 (x:=(nb:Int)) E8 E8,qa2 E8 E8];omega
   have htn:((nb:Int)).toNat=nb:=rfl;rw [qad (qab E8),hidx,qaa,w1,w2,q2m,htn];unfold q2l;by_cases hle:nb<r.length
   ·rw [qad (qab E8),qaa,if_pos E8];have h2:=qxf (fu:=fu) (s:=s) hf (p:=p) (nd:=nb) (r:=r) E8 E8 hsz hr hle fu nb 0 d E8 E8 (by rw [hdd];rfl) ha hv;have h2:qbc fu s p nb fu d 0=_:=h2;rw [h2];rfl
   ·rw [qae (qac E8),qhl,qaa,qaa];by_cases he:nb≤r.length
    ·rw [if_pos he];have:r.drop nb=[]:=Br E8;simp only [Ds];rw [this];rfl
    ·rw [if_neg he];rfl
 | q+1,m+1,i,d,hi,hq,hs,ho,hdd,ha,hv=>by
  have hbl:=qgl s;have w0:IntKind.wrap .i64 (no:Int)=(no:Int):=qa2 E8 E8;have w8:IntKind.wrap .i64 (((4+8*i:Nat):Int)+8)=((4+8*(i+1):Nat):Int):=by rw [qa2 E8 E8];omega
  have wi:IntKind.wrap .i64 ((i:Int)+1)=((i+1:Nat):Int):=by rw [qa2 E8 E8];omega
  rw [qbd,w0,qae (qac E8),w8];have hlen:((byL s).drop (4+8*i)).length=s.size-(4+8*i):=by rw [Ay,hbl]
  by_cases h8:s.size<4+8*(i+1)
  ·rw [qae (qac E8),qhl,qaa,qaa,qrm E8];rfl
  ·rw [qad (qab E8)];obtain ⟨k,y,a,b,c,dd,e,f,u,hu⟩:=q4a (t:=(byL s).drop (4+8*i)) E8;have w1:IntKind.wrap .i64 (((4+8*i:Nat):Int)+1)=((4+8*i+1:Nat):Int):=by rw [qa2 E8 E8];omega
   have w2:IntKind.wrap .i64 (((4+8*i:Nat):Int)+2)=((4+8*i+2:Nat):Int):=by rw [qa2 E8 E8];omega
   have hk:qjv s ((4+8*i:Nat):Int)=some k:=by
    have:=qva (s:=s) (p:=4+8*i) (j:=0) hu rfl;rwa [B9] at this
   have hy:qjv s ((4+8*i+1:Nat):Int)=some y:=qva (s:=s) (p:=4+8*i) (j:=1) hu rfl;have hkr:0≤k∧k<256:=qde (s:=s) (c:=k) (B0 (i:=4+8*i) (by rw [hu];exact X2));have hyr:0≤y∧y<256:=qde (s:=s) (c:=y) (B0 (i:=4+8*i) (by rw [hu];exact X0 _ X2));obtain ⟨s',hs1,hs2⟩:=qye (s:=s) (k:=4+8*i+2) E8;have hs3:byL s'=a::b::c::dd::e::f::u:=by
    rw [hs2,← Be,hu];rfl
   have hnext:(byL s).drop (4+8*(i+1))=u:=by
    rw [show 4+8*(i+1)=4+8*i+8 from by omega,← Be,hu];rfl
   rw [hk,qaa,w1,hy,qaa,w2,hs1,qaa,qu9 E8 hs3,qaa,qa2 (x:=k) E8 E8,qa2 (x:=y) E8 E8,qaa,qas (by have:Rep.bytes GOp=24:=rfl;rw [this];simp;omega),qaa,qaa,wi,hu,q38];rw [qxg hf hsz hno q m (i+1) { d with ops:=d.ops++[⟨k,y,q6a a b c dd e f⟩] } E8 E8 E8 (by simp;omega) hdd ha hv,hnext];cases hp:q38 m u with
   | none=>rfl
   | some z=>simp []
theorem qm9 (hf:300≤fu) (hs:s.size≤140737488351232):qe9 fu s=some (qoa (byL s)):=by
 have hbl:=qgl s;unfold qe9;by_cases h6:s.size<6
 ·rw [qae (qac E8),qhl,qaa,qaa];congr 1;unfold qoa;have hnone:∀ l:List Int,l.length<6→q80 (quf l)=(noF,1):=by
   intro l hl
   match l,hl with
   | [],_=>rfl
   | [_],_=>rfl
   | [_,_],_=>rfl
   | [_,_,_],_=>rfl
   | kd::nd::id::no::t,hl =>
    rw [quf];cases hn:no.toNat with
    | zero =>
     rw [q38];simp only [Ds]
     match t,hl with
     | [],_=>rfl
     | [m],_ =>
      rw [q2m];unfold q2l;by_cases hm:m.toNat≤([]:List Int).length
      ·rw [if_pos hm];simp [qz9,q80]
      ·rw [if_neg hm];rfl
     | _::_::_,hl=>simp at hl;omega
    | succ n =>
     rw [qrm (by simp at hl;omega)];rfl
  exact (hnone (byL s) E8).symm
 ·rw [qad (qab E8)]
  match hl:byL s with
  | []=>rw [hl] at hbl;simp at hbl;omega
  | [_]=>rw [hl] at hbl;simp at hbl;omega
  | [_,_]=>rw [hl] at hbl;simp at hbl;omega
  | [_,_,_]=>rw [hl] at hbl;simp at hbl;omega
  | a::b::c::no::t =>
   have i0:qjv s 0=some a:=by have:=qml s 0;rw [hl] at this;exact this
   have i1:qjv s 1=some b:=by have:=qml s 1;rw [hl] at this;exact this
   have i2:qjv s 2=some c:=by have:=qml s 2;rw [hl] at this;exact this
   have i3:qjv s 3=some no:=by have:=qml s 3;rw [hl] at this;exact this
   have hr:∀ z∈byL s,0≤z∧z<256:=fun z hz=>qde hz;rw [hl] at hr;have ha:=hr a (by simp);have hb:=hr b (by simp);have hc:=hr c (by simp);have hno:=hr no (by simp);have hnn:no=((no.toNat:Nat):Int):=by omega
   rw [i0,qaa,i1,qaa,i2,qaa,qa2 (x:=a) E8 E8,qa2 (x:=b) E8 E8,qa2 (x:=c) E8 E8,qaa,qaa,i3,qaa];have h1:=qxg (fu:=fu) (s:=s) hf hs (no:=no.toNat) E8 (d57:=(Zr.zd:GFrame)) fu no.toNat 0 { kind:=a,node:=b,id:=c,ops:=Zr.zd,deps:=Zr.zd,at_:=Zr.zd,vals:=Zr.zd } E8 E8 E8 rfl rfl rfl rfl;rw [← hnn] at h1;have h1:qbd fu s no fu _ (Zr.zd:GFrame) 4 0=_:=h1;rw [h1,show 4+8*0=4 from rfl,hl];rfl
end
def qjl (y21:Int) (rec22:GNode→GNode→Int→Option (GNode × Int)) (d31:GNode) (d33:GNode):Option (GNode × Int) := rec22 d31 d33 (IntKind.wrap .i64 (y21+1))
def qhm (b:GNode) (c:Int) (d:GNode→GNode→Int→Option (GNode × Int)) (e:GNode) (a:Int):Option (GNode × Int):=(bif a != 0 then (some ({ entries:=Zr.zd,order:=Zr.zd,values:=Zr.zd }:GNode)).bind fun f=>(some f).bind fun g=>some (g,a) else qjl c d e b)
def qb4 (fu:Nat) (c:Int) (a:List ByteArray):Nat→GNode→GNode→Int→Option (GNode × Int)
 | 0,_,_,_=>none
 | n+1,d,f,b=>(bif decide (b<(a.length:Int)) then (idx a b).bind fun h=>(qe9 fu h).bind fun e=>(some e.1).bind fun i=>(bif e.2==0 then (qie fu d c i).bind fun g=>(some g.1).bind fun j=>qhm f b (qb4 fu c a n) j g.2.2 else qhm f b (qb4 fu c a n) d e.2) else (some d).bind fun k=>some (k,0))
def qna (fu:Nat) (x1:Int) (x2:List ByteArray) (d9:GNode):Option (GNode × Int) := qb4 fu x1 x2 fu (Zr.zd:GNode) d9 0
def qhn (fu:Nat) (a:Int) (b:List ByteArray) (c:Bool):Option (GNode × Int):=(bif c then (some ({ entries:=Zr.zd,order:=Zr.zd,values:=Zr.zd }:GNode)).bind fun d=>(some d).bind fun e=>some (e,2) else qna fu a b (Zr.zd:GNode))
def qig (fu:Nat) (x1:Int) (x2:List ByteArray):Option (GNode × Int):=(bif decide (x1<0) then qhn fu x1 x2 true else qhn fu x1 x2 (decide (x1>5)))
theorem q03 {m:Value} {d:Int} {h:List ByteArray} {r:GNode × Int} (hA:Agree M w) (t:repL M m h) (a:qig fu d h=some r) :
    Calls Tryz.prog 25 #[Ge d,m] w (Gives M w (fun y u=>∃ n,u= .tuple #[Gf n,Ge r.2]∧rep y n r.1)):=by
 refine Zm Tryz.func25 45 fun T hT=>?_;have ai:T 0=Ge d:=hT 0;have bd:T 1=m:=hT 1;have b:Gi w M [] w:=Zt hA;rw [qig] at a;refine Qz ?_;refine Ql (Zn Xm b ?_);intro e _ _ b;have ad:rep M (Zr.zc GNode) (Zr.zd:GNode):=Zr.zr;refine Qa (Qf (Ge 0) rfl)<|Qj ?_;refine Qp (fun c g=>∃ o aj d9,Gh w M o∧Gi w o [Gk e aj 37] g∧rep o aj d9∧c 0=Ge d∧c 1=m∧c 4=Gg e∧qna fu d h d9=some r) ?_ ?_;refine Qp (fun c g=>∃ z a0,Gh w M z∧Gi w z [Gk e (Zr.zc GNode) 37] g∧c 0=Ge d∧c 1=m∧c 4=Gg e∧c 16= .bool a0∧qhn fu d h a0=some r) ?_ ?_;refine Q1<|Zj ai<|Qa (Zw rfl rfl)<|Qa (Qd (.bool (decide (d<0))) rfl) ?_;rcases ic a with ⟨be,a⟩ | ⟨be,a⟩<;>rw [be];refine Qv 3 rfl<|Qj ?_;exact ⟨M,true,(Qb _ _ _),b,ai,bd,rfl,rfl,a⟩;refine Qg rfl rfl (Qd _ ai)<|Qg rfl rfl (Yx rfl rfl)<|Qa (Q5 (.bool (decide (d>5))) rfl rfl)<|Qj ?_;exact ⟨M,(decide (d>5)),(Qb _ _ _),b,ai,bd,rfl,rfl,a⟩;rintro _ _ ⟨z,a0,a1,b,b2,b3,a2,b5,a⟩;replace ad:=Zg a1 ad;rw [qhn] at a;refine Q4 a b5 (fun b6 a=>?_) fun b6 a=>?_;refine Qz ?_;obtain ⟨b7,b8,a⟩:=Qc a;obtain ⟨_,b9,bg⟩:∃ cs,qay (([(0,192),(192,1),(193,8)]:List (Nat × Nat))[·]?) (Zr.zc GNode) []=some cs∧rep z cs b7:=⟨_,Yd,Ye (x:=({ entries:=Zr.zd,order:=Zr.zd,values:=Zr.zd }:GNode)) (Zr.zr:rep z (Zr.zc GNode) (Zr.zd:GNode)) b8⟩;refine Qa (Z0 [] zba Vl b9) ?_;obtain ⟨_,ca,a⟩:=Qc a;refine Ql<|Z9 0 201 b rfl ad a2 rfl bg rfl rfl (Lf (rr ad) bg) ca fun dy dz bh d0 d1 b=>Qa (Qf (Ge 2) rfl)<|Qj ?_;cases a;exact Q2 (U6 (j:=0) rfl a2 rfl (Vz Vk bh) b rfl (Zc b a1 ⟨_,rfl,bh⟩));refine Qk<|Qe ?_;exact ⟨z,(Zr.zc GNode),(Zr.zd:GNode),a1,b,ad,b2,b3,a2,a⟩;rintro _ _ ⟨o,aj,d9,a3,b,cb,cc,cd,ce,a⟩;replace t:=Qo a3.1 t;rw [qna] at a;refine Qz ?_;refine Ql (Zn Xm b ?_);intro aa _ _ b;have cf:rep o (Zr.zc GNode) (Zr.zd:GNode):=Zr.zr;refine Qj<|Qu<|Qz<|Zj cd ?_;obtain ⟨_,_,cg,_⟩:=Qy t;refine Qa (Zh V4 (Vr cg rfl))<|Qa (Qd (Ge 0) rfl)<|Qj<|Qs ?_;refine Zy (fun a4 c g=>∃ ab ae al af ag i,Gh w o ab∧Gi w ab [Gk aa ae 37,Gk e af 37] g∧rep ab ae al∧rep ab af ag∧c 0=Ge d∧c 4=Gg e∧c 6=Gg aa∧c 18=m∧c 19=Ge (h.length:Int)∧c 20=Ge i∧qb4 fu d h a4 al ag i=some r) fu ?_ ?_ ?_;exact ⟨o,(Zr.zc GNode),(Zr.zd:GNode),aj,d9,(0:Int),(Qb _ _ _),b,cf,cb,cc,ce,rfl,rfl,rfl,rfl,a⟩;rintro c g ⟨_,_,_,_,_,_,_,_,_,_,_,_,_,_,_,_,a⟩;rw [qb4] at a;cases a;intro a4;rintro _ _ ⟨ab,ae,al,af,ag,i,am,b,k,l,a5,an,ah,a6,a7,ao,a⟩;replace t:=Qo am.1 t;rw [qb4] at a;obtain ⟨bi,bj⟩:∃ f,f=qb4 fu d h a4:=⟨_,rfl⟩;rw [← bj] at a;refine Qz<|Qa (Zw ao a7)<|Qj<|Qu ?_;refine Q4 a rfl (fun ch a=>?_) fun ch a=>?_;refine Qk<|Qe ?_;refine Qp (fun c g=>∃ ac ap aq ar au,Gh w ab ac∧Gi w ac [Gk aa ap 37,Gk e ar 37] g∧rep ac ap aq∧rep ac ar au∧c 0=Ge d∧c 4=Gg e∧c 6=Gg aa∧c 18=m∧c 19=Ge (h.length:Int)∧c 20=Ge i∧qjl i bi aq au=some r) ?_ ?_;refine Qs<|Qz ?_;obtain ⟨av,_,_,_,_,ci,cj,ck,cl,cm,a⟩:=Yc 1 t a;refine Qa (Yp zcp a6 ci ao cj ck)<|Qa (Qh (.string av) ts9 rfl (b.bvM cl) cm.1)<|Qa (Qf (.string av) rfl)<|Qj<|Qz<|Qa (Qd (.string av) rfl) ?_;obtain ⟨p,cn,a⟩:=Qc a;refine Ql (Yh (vs:=[.string av]) (rv:=(fun y u=>∃ n,u= .tuple #[Gf n,Ge p.2]∧rep y n p.1)) cb26 (Zl rfl) b (qoz b.agree cn) ?_);intro _ a8 _ aw co b;obtain ⟨bk,cp,bl⟩:=co;subst cp;replace k:=Zg aw k;replace l:=Zg aw l;refine Qa (Qd (.tuple #[Gf bk,Ge p.2]) rfl)<|Qa (Q3 (v:= Gf bk) rfl rfl)<|Qa (Q3 (v:= Ge p.2) rfl rfl) ?_;refine Ql (Zn q59 b ?_);intro cq _ cr b;have bm:rep a8 (Zr.zc GFrame) (Zr.zd:GFrame):=Zr.zr;obtain ⟨_,ct,a⟩:=Qc a;refine Ql (Z8 0 7 b bm bl (Lf (rr bm) bl) ct ?_);intro bn _ cu _ _ b;refine Qa (Qf (Ge p.2) rfl)<|Qj ?_;refine Qp (fun c g=>∃ q ax ay az,Gh w a8 q∧Gi w q [Gk cq bn 82,Gk aa ax 37,Gk e af 37] g∧rep q ax ay∧c 0=Ge d∧c 4=Gg e∧c 6=Gg aa∧c 10=Ge az∧c 18=m∧c 19=Ge (h.length:Int)∧c 20=Ge i∧qhm ag i bi ay az=some r) ?_ ?_;refine Qz<|Qa (Qd (Ge p.2) rfl)<|Qa (Z5 rfl rfl)<|Qj ?_;refine Q4 a rfl (fun cv a=>?_) fun cv a=>?_;refine Q1 ?_;have bo:=(rr k);refine Qa (Zb Vk ah (b.bvB 1 rfl) (Xx bo))<|Zj a5 ?_;have bp:=(rr cu);refine Qa (Zb Jh rfl (b.bvB 0 rfl) (Xx bp)) ?_;obtain ⟨s,cw,a⟩:=Qc a;refine Ql (Yh (vs:=[Gf (sl ae (0) 201),Ge d,Gf (sl bn (0) 7)]) (rv:=(fun y u=>∃ n v1,u= .tuple #[Gf n,v1,Ge s.2.2]∧rep y n s.1∧repL y v1 s.2.1)) zha (Jq rfl rfl rfl) b (qmu b.agree bo bp cw) ?_);intro _ cx _ br cy b;obtain ⟨bs,bu,c1,bv,_⟩:=cy;subst c1;replace k:=Zg br k;refine Qa (Qd (.tuple #[Gf bs,bu,Ge s.2.2]) rfl)<|Qa (Q3 (v:= Gf bs) rfl rfl)<|Qa (Q3 (v:=bu) rfl rfl)<|Qa (Q3 (v:= Ge s.2.2) rfl rfl) ?_;obtain ⟨c2,c3,a⟩:=Qc a;refine Ql<|Z9 1 201 b rfl k ah rfl bv rfl rfl (Lf (rr k) bv) c3 fun c4 ep c5 er es b=>Qa (Qf (Ge s.2.2) rfl)<|Qj ?_;exact ⟨cx,c4,c2,s.2.2,br,b,c5,a5,an,ah,rfl,a6,a7,ao,a⟩;refine Qk<|Qe ?_;exact ⟨a8,ae,al,p.2,(Qb _ _ _),b,k,a5,an,ah,rfl,a6,a7,ao,a⟩;rintro _ _ ⟨q,ax,ay,az,a9,b,c6,c7,ba,c8,bw,c9,da,db,a⟩;replace l:=Zg a9 l;rw [qhm] at a;refine Qz<|Zj bw<|Qa (Yi rfl rfl)<|Qj ?_;refine Q4 a rfl (fun dc a=>?_) fun dc a=>?_;refine Qz ?_;obtain ⟨dd,de,a⟩:=Qc a;obtain ⟨_,df,bx⟩:∃ cs,qay (([(0,192),(192,1),(193,8)]:List (Nat × Nat))[·]?) (Zr.zc GNode) []=some cs∧rep q cs dd:=⟨_,Yd,Ye (x:=({ entries:=Zr.zd,order:=Zr.zd,values:=Zr.zd }:GNode)) (Zr.zr:rep q (Zr.zc GNode) (Zr.zd:GNode)) de⟩;refine Qa (Z0 [] zba Vl df)<|Zj bw ?_;obtain ⟨_,dg,a⟩:=Qc a;refine Ql<|Z9 2 201 b rfl l ba rfl bx rfl rfl (Lf (rr l) bx) dg fun ex ey bz ez e0 b=>Qa (Qf (Ge az) rfl)<|Qj ?_;cases a;exact Q2 (U6 (j:=2) rfl ba rfl (Vz Vk bz) b rfl (Zc b (a3.trans (am.trans (aw.trans a9))) ⟨_,rfl,bz⟩));refine Qk<|Q7<|Qe ?_;exact ⟨q,ax,ay,af,ag,(aw.trans a9),(Yz b cr),c6,l,c7,ba,c8,c9,da,db,a⟩;rintro _ _ ⟨ac,ap,aq,ar,au,dh,b,di,dj,dk,dl,dm,dn,dp,dq,a⟩;rw [qjl] at a;refine Q1<|Qa (Zu dq rfl)<|Qa (Qd (Ge (IntKind.wrap .i64 (i+1))) rfl)<|Qj ?_;exact ⟨ac,ap,aq,ar,au,(IntKind.wrap .i64 (i+1)),(am.trans dh),b,di,dj,dk,dl,dm,dn,dp,rfl,(by rw [← bj];exact a)⟩;refine Zp<|Qq<|Qq<|Zq<|Qe<|Qz ?_;have bb:=(rr k);refine Qa (Zb Vk ah (b.bvB 0 rfl) (Xx bb)) ?_;obtain ⟨_,dr,a⟩:=Qc a;refine Ql<|Z9 1 201 b rfl l an rfl bb rfl rfl (Lf (rr l) bb) dr fun e4 e5 b0 e6 e7 b=>Qa (Qf (Ge 0) rfl)<|Qj ?_;cases a;exact Q2 (U6 (j:=1) rfl an rfl (Vz Vk b0) b rfl (Zc b (a3.trans am) ⟨_,rfl,b0⟩))
noncomputable def qfv (who:Int):List ByteArray→GNode→GNode × Int
 | [],s=>(s,0)
 | x::t,s=>bif (qoa (byL x)).2 != 0 then (zeroN,(qoa (byL x)).2) else bif (qcj s who (qoa (byL x)).1).2.2 != 0 then (zeroN,(qcj s who (qoa (byL x)).1).2.2) else qfv who t (qcj s who (qoa (byL x)).1).1
theorem qss {who:Int}:∀ (l:List ByteArray) {s:GNode},GoodN s→GoodN (qfv who l s).1
 | [],_,h=>h
 | x::t,s,h=>by
  unfold qfv;cases h1:((qoa (byL x)).2 != 0)
  ·rw [cond_false];cases h2:((qcj s who (qoa (byL x)).1).2.2 != 0)
   ·rw [cond_false];exact qss t (qif (by simpa using h2))
   ·exact qi7
  ·exact qi7
theorem qlx {fu:Nat} (hfu:300≤fu) {who:Int} {l:List ByteArray} (hl:l.length≤17592186043904) (hs:∀ x∈l,x.size≤140737488351232) (z:GNode):∀ (n m k:Nat) (s:GNode),l.length=k+m→m<n→GoodN s→qb2 fu who l n s z k=some (qfv who (l.drop k) s)
 | 0,m,k,_,_,h,_=>absurd h E8
 | n+1,0,k,s,hk,_,_=>by
  rw [qb2,qad (qab E8),qaa,List.drop_of_length_le E8];rfl
 | n+1,m+1,k,s,hk,hn,hg=>by
  have hlt:k<l.length:=by omega
  have hx:=hs _ (At hlt);have ih:=fun s hg=>qlx hfu hl hs (who:=who) z n m (k+1) s E8 E8 hg;rw [qb2,qae (qac E8),qap,Xy hlt,qaa,qwy E8 hx,qaa,qaa,X4 hlt];generalize l[k]=x;rw [qfv,wrs k E8];cases h1:((qoa (byL x)).2 != 0)
  ·rw [cond_false,cond_false,qsr hg.sizes E8 E8,qaa,qaa];cases h2:((qcj s who (qoa (byL x)).1).2.2 != 0)
   ·rw [cond_false,cond_false];exact ih _ (qif (by simpa using h2))
   ·rfl
  ·rfl
theorem qv1 {fu:Nat} {who:Int} {l:List ByteArray} (hfu:l.length+300≤fu) (hl:l.length≤17592186043904) (hs:∀ x∈l,x.size≤140737488351232):qgh fu who l=some (bif decide (0≤who∧who<6) then qfv who l zeroN else (zeroN,2)):=by
 unfold qgh;rw [qxc,qaa];cases decide (0≤who∧who<6)
 ·rfl
 ·rw [qad (c := !true) rfl,cond_true];exact qlx E8 hl hs _ fu l.length 0 zeroN E8 E8 qi7
theorem qnb {fu:Nat} (hfu:300≤fu) {who:Int} {l:List ByteArray} (hl:l.length≤17592186043904) (hs:∀ x∈l,x.size≤140737488351232):∀ (n m k:Nat) (s z:GNode),l.length=k+m→m<n→GoodN s→qb4 fu who l n s z k=some (qfv who (l.drop k) s)
 | 0,m,k,_,_,_,h,_=>absurd h E8
 | n+1,0,k,s,z,hk,_,_=>by
  rw [qb4,qad (qab E8),qaa,List.drop_of_length_le E8];rfl
 | n+1,m+1,k,s,z,hk,hn,hg=>by
  have hlt:k<l.length:=by omega
  have hx:=hs _ (At hlt);have ih:=fun s z hg=>qnb hfu hl hs (who:=who) n m (k+1) s z E8 E8 hg;rw [qb4,qae (qac E8),qap,Xy hlt,qaa,qm9 E8 hx,qaa,qaa,X4 hlt];generalize l[k]=x;unfold qhm qjl;rw [qfv,wrs k E8];have hne:((qoa (byL x)).2 != 0) = !((qoa (byL x)).2==0):=rfl;rw [hne];cases h1:((qoa (byL x)).2==0)
  ·rfl
  ·rw [cond_true,Ab,cond_false,qqz hg.sizes E8 E8,qaa,qaa];cases h2:((qcj s who (qoa (byL x)).1).2.2 != 0)
   ·rw [cond_false,cond_false];exact ih _ _ (qif (by simpa using h2))
   ·rfl
theorem qyz {fu:Nat} {who:Int} {l:List ByteArray} (hfu:l.length+300≤fu) (hl:l.length≤17592186043904) (hs:∀ x∈l,x.size≤140737488351232):qig fu who l=some (bif decide (0≤who∧who<6) then qfv who l zeroN else (zeroN,2)):=by
 unfold qig qhn;by_cases h0:who<0
 ·rw [qae (qac h0),qab (show ¬ (0≤who∧who<6) by omega)];rfl
 ·rw [qad (qab h0)];by_cases h5:who>5
  ·rw [qac h5,qab (show ¬ (0≤who∧who<6) by omega)];rfl
  ·rw [qab h5,qac (show 0≤who∧who<6 by omega),cond_false,cond_true];exact qnb E8 hl hs fu l.length 0 zeroN zeroN E8 E8 qi7
theorem q8k {f:GFrame} (hz:qaf f=0):(qz8 f).2=0∧qoa (byL (qz8 f).1)=(f,0)∧(qz8 f).1.size≤100:=by
 have hf:=q37 hz;obtain ⟨hb,hl⟩:=q8j hf;have hby:=zch hb;have hsz:=qgl (strOfNums (q2k f));rw [hby] at hsz;have hpar:=q8i hf [];rw [Eb] at hpar;unfold qz8;rw [if_pos hz];refine ⟨rfl,?_,by show (strOfNums (q2k f)).size≤100;omega⟩;show qoa (byL (strOfNums (q2k f)))=_;rw [hby];unfold qoa;rw [hpar];show (bif qaf f==0 then (f,0) else (noF,(1:Int)))=_;rw [hz];rfl
abbrev D4 := @List.eraseIdx_eq_take_drop_succ
abbrev Bz := @List.mem_of_mem_eraseIdx
abbrev Dy := @List.length_eraseIdx_le
section
variable {α : Type} [Rep α] [Zr α] {n:Nat}
def qaz (v:Vector α n) (k:Nat) : α := v[k]?.getD Zr.zd
theorem ql0 {v:Vector α n} {j:Int} (h0:0≤j) (h1:j<n):qan v j=some (qaz v j.toNat):=by
 have h:j.toNat<n:=by omega
 unfold qan qaz;rw [if_pos h0];simp [h]
theorem qgx {v:Vector α n} {k j:Nat} {x : α} (hk:k<n):qaz (v.setIfInBounds k x) j=if k=j then x else qaz v j:=by
 unfold qaz;rw [Vector.getElem?_setIfInBounds];by_cases e:k=j
 ·rw [if_pos e,if_pos e,if_pos hk];rfl
 ·rw [if_neg e,if_neg e]
theorem qkk [Pos α] (k:Nat):qaz (Zr.zd:Vector α n) k=Zr.zd:=by
 show qaz (Vector.replicate n Zr.zd) k=Zr.zd;unfold qaz;by_cases hk:k<n<;>simp [hk]
end
def qrc (e:Int):GReply:={ code:=e,n:=0,values:=[] }
def okR (n:Int) (v:List Int):GReply:={ code:=0,n:=n,values:=v }
def qjs:List ByteArray→List GFrame→List ByteArray
 | net,[]=>net
 | net,f::t=>qjs (bif qaf f==0&&decide (net.length<60) then net++[(qz8 f).1] else net) t
theorem q8l (f:GFrame):(qz8 f).2=qaf f:=by
 unfold qz8;split
 ·rename_i h;exact h.symm
 ·rfl
theorem qq1 (f:GFrame):(qz8 f).1.size≤100:=by
 by_cases h:qaf f=0
 ·exact (q8k h).2.2
 ·unfold qz8;rw [if_neg h];show (strOfNums []).size≤100;have:(strOfNums []).size=0:=rfl;omega
theorem qst {fu:Nat} (hfu:40≤fu) {l:List GFrame} (hl:l.length≤1000) {c:GCluster}:∀ (n m k:Nat) (net:List ByteArray),l.length=k+m→m<n→qel fu l n c net k=some (c,qjs net (l.drop k))
 | 0,m,k,_,_,h=>absurd h E8
 | n+1,0,k,net,hk,_=>by
  rw [qel,qad (qab E8),List.drop_of_length_le E8];rfl
 | n+1,m+1,k,net,hk,hn=>by
  have hb:Rep.bytes ByteArray=16:=rfl;have hlt:k<l.length:=by omega
  have ih:=fun net=>qst hfu hl (c:=c) n m (k+1) net E8 E8;rw [qel,qae (qac E8),qap,Xy hlt,qaa,qaa,q5f _ hfu,qaa,X4 hlt,q8l];generalize l[k]=f;simp only [qmj,qmi,zfc k E8,qjs];have hs:=qq1 f;cases h1:(qaf f==0)
  ·rw [cond_false,cond_false,B1,cond_false,ih]
  ·rw [cond_true,Aj];by_cases h2:net.length<60
   ·rw [qac E8,qac h2,cond_true,cond_true,qfh E8,qaa,qas (by rw [hb];simp only [Ai];omega),qaa,qaa];exact ih _
   ·rw [qab E8,qab h2,cond_false,cond_false,ih]
theorem qn4 {fu:Nat} (hfu:1100≤fu) {l:List GFrame} (hl:l.length≤1000) {c:GCluster} {net:List ByteArray}:qpb fu c net l=some (c,qjs net l) :=
 qst E8 hl fu l.length 0 net E8 E8
theorem qpi:∀ (l:List GFrame) (net:List ByteArray),net.length≤60→(∀ s∈net,s.size≤400)→(qjs net l).length≤60∧∀ s∈qjs net l,s.size≤400
 | [],net,h1,h2=>⟨h1,h2⟩
 | f::t,net,h1,h2=>by
  rw [qjs];cases hb:(qaf f==0&&decide (net.length<60))
  ·exact qpi t net h1 h2
  ·simp only [Bool.and_eq_true,decide_eq_true_eq] at hb;refine qpi t _ (by simp;omega) fun s hs=>?_;rcases List.mem_append.1 hs with hs | hs
   ·exact h2 s hs
   ·rw [List.mem_singleton.1 hs];have:=qq1 f;omega
structure CInv (c:GCluster) (net:List ByteArray):Prop where
 acts:0≤c.acts∧c.acts≤400
 begun:0≤c.begun∧c.begun≤32
 node:∀ n,n<6→GoodN (qaz c.nodes n)
 down:∀ n,n<6→qaz c.down n=true→qaz c.nodes n=zeroN
 log:∀ n,n<6→(qaz c.logs n).size≤65536
 tear:∀ n,n<6→0≤qaz c.tear n∧qaz c.tear n≤401
 cas:∀ n,n<32→qdm (qaz c.cases n)=true
 net:net.length≤60∧∀ s∈net,s.size≤400
def q04 (c:GCluster) (x:Int):GReply:=okR x (qee (qaz c.cases x.toNat)).1
theorem qxh {fu:Nat} (hfu:7≤fu) {c:GCluster} {x:Int} (h0:0≤x) (h1:x<32):qri fu c x=some (q04 c x):=by
 unfold qri;rw [qak h0 h1,qaa,ql0 h0 h1,qaa,qvw hfu,qaa,qaa,qaa];rfl
def begC (c:GCluster) (ops:List GOp):GCluster:={ c with cases:=c.cases.setIfInBounds c.begun.toNat (qeo { id:=c.begun,ops:=ops }).1,begun:=c.begun+1 }
def q82 (c:GCluster) (net:List ByteArray) (ops:List GOp):GReply × GCluster × List ByteArray :=
 bif decide (c.begun≥32) then (qrc 5,c,net) else
 bif (qeo { id:=c.begun,ops:=ops }).2.2 != 0 then (qrc (qeo { id:=c.begun,ops:=ops }).2.2,c,net) else
 (okR c.begun [],begC c ops,qjs net (qeo { id:=c.begun,ops:=ops }).2.1)
theorem qxi (t:GTxn):(qeo t).2.1.length≤6:=by
 unfold qeo;cases decide (0≤t.id∧t.id<32)
 ·simp
 ·cases qaj t.ops
  ·simp
  ·exact againC_small.1
theorem q20 {fu:Nat} (hfu:1100≤fu) {c:GCluster} {net:List ByteArray} (h:CInv c net) {ops:List GOp}:qp9 fu c net ops=some (q82 c net ops):=by
 obtain ⟨h0,h1⟩:=h.begun;unfold qp9 q82;by_cases h32:c.begun≥32
 ·rw [qae (qac h32),qae (qac h32)];rfl
 ·rw [qad (qab h32),qad (qab h32),qaa,qyn E8,qaa,qaa];cases hc:((qeo { id:=c.begun,ops:=ops }).2.2 != 0)
  ·have hl:=qxi { id:=c.begun,ops:=ops };rw [cond_false,cond_false,qak h0 E8,qaa,ql0 h0 E8,qaa,qar h0 E8,qaa,qaa];have e1:IntKind.wrap .i64 (c.begun+1)=c.begun+1:=qa2 E8 E8;have e2:∀ (x:Vector GCase 32),({ c with cases:=x }:GCluster).begun=c.begun:=fun _=>rfl;rw [e2,e1,qaa,qn4 hfu E8,qaa];dsimp only;have e3:IntKind.wrap .i64 (c.begun+1-1)=c.begun:=by rw [qa2 E8 E8];omega
   rw [e3];rfl
  ·rfl
def q5v (c:GCluster) (n:Nat):GCluster:={ c with nodes:=c.nodes.setIfInBounds n zeroN,down:=c.down.setIfInBounds n true,tear:=c.tear.setIfInBounds n 0 }
noncomputable def qfc (c:GCluster) (net:List ByteArray) (n:Nat) (f:GFrame) (s:ByteArray):Int × GCluster × List ByteArray :=
 bif qaz c.down n then (6,c,net) else
 bif (qcj (qaz c.nodes n) n f).2.2 != 0 then ((qcj (qaz c.nodes n) n f).2.2,c,net) else
 bif decide (qaz c.tear n>0) then (6,q5v { c with logs:=c.logs.setIfInBounds n (qvr (qaz c.logs n) s (qaz c.tear n-1)) } n,net) else
 bif qdl (qaz c.logs n) s != 0 then (qdl (qaz c.logs n) s,{ c with logs:=c.logs.setIfInBounds n (qvq (qaz c.logs n) s) },net) else
 (0,{ c with logs:=c.logs.setIfInBounds n (qvq (qaz c.logs n) s),nodes:=c.nodes.setIfInBounds n (qcj (qaz c.nodes n) n f).1 },qjs net (qcj (qaz c.nodes n) n f).2.1)
theorem qrx {log s:ByteArray} {n:Int} (h:log.size≤65536):(qvr log s n).size≤65536:=by
 unfold qvr;split
 ·rename_i hc;have hs:=qnj log s;rcases qs4 log s with ⟨_,_,_,h4⟩ | ⟨h0,_⟩
  ·rw [Bk];omega
  ·exact absurd hc h0
 ·exact h
theorem qq2 {log s:ByteArray} (h:log.size≤65536):(qvq log s).size≤65536:=by
 have hs:=qnj log s;rcases qs4 log s with ⟨h0,_,_,h4⟩ | ⟨_,h1⟩
 ·unfold qvq;rw [if_pos h0];omega
 ·rw [h1];exact h
theorem q05 {s:GNode} {who:Int} {f:GFrame}:(qcj s who f).2.1.length≤100:=by
 by_cases h:(qcj s who f).2.2=0
 ·exact (q2z h).1
 ·rw [(q4l h).2];simp
theorem q5w {fu:Nat} (hfu:1100≤fu) {c:GCluster} {net:List ByteArray} (h:CInv c net) {x:Int} (h0:0≤x) (h6:x<6) {f:GFrame} {s:ByteArray} (hs:s.size≤400):qt8 fu c net x f s=some (qfc c net x.toNat f s):=by
 have hn:x.toNat<6:=by omega
 have ex:((x.toNat:Nat):Int)=x:=by omega
 have hg:=h.node _ hn;have hlog:=h.log _ hn;have ht:=h.tear _ hn;unfold qt8 qfc;rw [qak h0 h6,qaa,ql0 h0 h6,qaa,ex];cases qaz c.down x.toNat
 ·rw [cond_false,cond_false,qaa,ql0 h0 h6,qaa,qsr hg.sizes E8 E8,qaa,qaa];have hl:=q05 (s:=qaz c.nodes x.toNat) (who:=x) (f:=f);unfold qqa;cases h1:((qcj (qaz c.nodes x.toNat) x f).2.2 != 0)
  ·rw [cond_false,cond_false,qak h0 h6,qaa,ql0 h0 h6,qaa];by_cases h2:qaz c.tear x.toNat>0
   ·rw [qae (qac h2),qae (qac h2),qaa,ql0 h0 h6,qaa,qaa,qaa,qa2 E8 E8,q5g E8,qaa,qaa,qfh (by have:=qrx (s:=s) (n:=qaz c.tear x.toNat-1) hlog;omega),qaa,qaa,qar h0 h6,qaa,qaa,qaa,qaa,
     ql0 h0 h6,qaa,qar h0 h6,qaa,qaa,qaa,ql0 h0 h6,qaa,qar h0 h6,qaa,qaa,qaa,ql0 h0 h6,qaa,qar h0 h6,qaa,qaa]
    rfl
   ·rw [qad (qab h2),qad (qab h2),qaa,ql0 h0 h6,qaa,quh E8,qaa,qaa,qfh (by have:=qq2 (s:=s) hlog;dsimp only;omega),qaa,qaa,qar h0 h6,qaa,qaa];cases h3:(qdl (qaz c.logs x.toNat) s != 0)
    ·rw [cond_false,cond_false,qaa,ql0 h0 h6,qaa,qar h0 h6,qaa,qaa,qn4 hfu E8,qaa]
    ·rfl
  ·rfl
 ·rfl
noncomputable def frm2 (c:GCluster) (net:List ByteArray) (kind:Int) (f:GFrame) (s:ByteArray):GReply × GCluster × List ByteArray :=
 bif kind==4 then (okR f.id [],c,net) else
 bif f.kind==1||f.kind==3 then
  (bif (qfc c net f.node.toNat f s).1 != 0 then qrc (qfc c net f.node.toNat f s).1 else okR f.id [],(qfc c net f.node.toNat f s).2.1,(qfc c net f.node.toNat f s).2.2)
 else
  bif (qbz (qaz c.cases f.id.toNat) f.id f).2.2 != 0 then (qrc (qbz (qaz c.cases f.id.toNat) f.id f).2.2,c,net)
  else (q04 { c with cases:=c.cases.setIfInBounds f.id.toNat (qbz (qaz c.cases f.id.toNat) f.id f).1 } f.id,{ c with cases:=c.cases.setIfInBounds f.id.toNat (qbz (qaz c.cases f.id.toNat) f.id f).1 },qjs net (qbz (qaz c.cases f.id.toNat) f.id f).2.1)
def qjm (net:List ByteArray) (x:Int):ByteArray:=net[x.toNat]?.getD ⟨#[]⟩
def qnc (net:List ByteArray) (x:Int):GFrame:=(qoa (byL (qjm net x))).1
noncomputable def q06 (c:GCluster) (net:List ByteArray) (a:GAct):GReply × GCluster × List ByteArray :=
 bif decide (0≤a.n∧a.n<net.length) then frm2 c (bif a.kind==3 then net else net.eraseIdx a.n.toNat) a.kind (qnc net a.n) (qjm net a.n) else (qrc 4,c,net)
theorem q8m (l:List Int):(0≤(qoa l).1.node∧(qoa l).1.node<6)∧(0≤(qoa l).1.id∧(qoa l).1.id<32):=by
 rcases q5u l with ⟨f,_,hz,h⟩ | h
 ·rw [h];exact (qd4 hz).2
 ·rw [h];exact ⟨⟨by show (0:Int)≤0;omega,by show (0:Int)<6;omega⟩,⟨by show (0:Int)≤0;omega,by show (0:Int)<32;omega⟩⟩
theorem CInv.cut {c:GCluster} {net net':List ByteArray} (h:CInv c net) (hs:∀ s∈net',s∈net) (hl:net'.length≤net.length):CInv c net' :=
 ⟨h.acts,h.begun,h.node,h.down,h.log,h.tear,h.cas,by have:=h.net.1;omega,fun s hm=>h.net.2 s (hs s hm)⟩
theorem qq3 {fu:Nat} (hfu:1100≤fu) {c:GCluster} {net:List ByteArray} (h:CInv c net) {a:GAct} {s:ByteArray} (hs:s.size≤400) {d:GReply}:qic fu a d s c net=some (frm2 c net a.kind (qoa (byL s)).1 s):=by
 obtain ⟨⟨n0,n6⟩,i0,i32⟩:=q8m (byL s);unfold qic frm2;rw [qwy E8 E8,qaa,qaa];generalize (qoa (byL s)).1=f at n0 n6 i0 i32;cases h4:(a.kind==4)
 ·have hcome:qe6 fu d s c net f true=some (bif (qfc c net f.node.toNat f s).1 != 0 then qrc (qfc c net f.node.toNat f s).1 else okR f.id [],(qfc c net f.node.toNat f s).2.1,(qfc c net f.node.toNat f s).2.2):=by
   rw [qe6,cond_true,q5w hfu h n0 n6 hs,qaa];cases ((qfc c net f.node.toNat f s).1 != 0)<;>rfl
  have htake:qe6 fu d s c net f false=some (bif (qbz (qaz c.cases f.id.toNat) f.id f).2.2 != 0 then (qrc (qbz (qaz c.cases f.id.toNat) f.id f).2.2,c,net)
   else (q04 { c with cases:=c.cases.setIfInBounds f.id.toNat (qbz (qaz c.cases f.id.toNat) f.id f).1 } f.id,{ c with cases:=c.cases.setIfInBounds f.id.toNat (qbz (qaz c.cases f.id.toNat) f.id f).1 },qjs net (qbz (qaz c.cases f.id.toNat) f.id f).2.1)):=by
   have hl:=(qu1 (c:=qaz c.cases f.id.toNat) (id:=f.id) (f:=f)).2.1
   rw [qe6,cond_false,qny,qak i0 i32,qaa,ql0 i0 i32,qaa,q0w E8,qaa,qaa,qnx]
   cases ((qbz (qaz c.cases f.id.toNat) f.id f).2.2 != 0)
   ·rw [cond_false,cond_false,qak i0 i32,qaa,ql0 i0 i32,qaa,qar i0 i32,qaa,qaa,qn4 hfu E8,qaa,qxh E8 i0 i32,qaa,qaa]
   ·rfl
  rw [cond_false,cond_false];cases h1:(f.kind==1)
  ·rw [cond_false,A9];cases h3:(f.kind==3)
   ·rw [htake];rfl
   ·rw [hcome];rfl
  ·rw [cond_true,hcome];rfl
 ·rfl
theorem q21 {fu:Nat} (hfu:1100≤fu) {c:GCluster} {net:List ByteArray} (h:CInv c net) {a:GAct}:qqb fu c net a=some (q06 c net a):=by
 obtain ⟨hn1,hn2⟩:=h.net;unfold qqb q06 qkd;by_cases h0:a.n<0
 ·rw [qae (qac h0),qab (show ¬ (0≤a.n∧a.n<net.length) by omega)];rfl
 ·rw [qad (qab h0)];by_cases h1:a.n≥(net.length:Int)
  ·rw [qac h1,qab (show ¬ (0≤a.n∧a.n<net.length) by omega)];rfl
  ·rw [qab h1,qac (show 0≤a.n∧a.n<net.length by omega),cond_false,cond_true,qnz];have hlt:a.n.toNat<net.length:=by omega
   have hi:idx net a.n=some (qjm net a.n):=by
    unfold idx qjm;rw [if_pos E8];simp [hlt]
   have hsz:(qjm net a.n).size≤400:=by
    unfold qjm;rw [Xy hlt];exact hn2 _ (At hlt)
   have hk3:(a.kind != 3) = !(a.kind==3):=rfl;rw [hi,qaa,hk3];cases a.kind==3
   ·have hd:zcr net a.n (IntKind.wrap .i64 (a.n+1))=some (net.eraseIdx a.n.toNat):=by
     rw [qa2 E8 E8];unfold zcr;rw [if_pos E8,D4];have:(a.n+1).toNat=a.n.toNat+1:=by omega
     rw [this]
    rw [Ah,cond_true,cond_false,hd,qaa,qaa];exact qq3 hfu (h.cut (fun s hs=>Bz hs) (Dy ..)) hsz
   ·rw [Ab,cond_false,cond_true];exact qq3 hfu h hsz
noncomputable def q5x (c:GCluster) (n:Nat):GCluster:={ c with logs:=c.logs.setIfInBounds n ((qaz c.logs n).extract 0 (qb0 (qaz c.logs n).data.toList).2),nodes:=c.nodes.setIfInBounds n (qfv n (qb0 (qaz c.logs n).data.toList).1 zeroN).1,down:=c.down.setIfInBounds n false }
def q22 (a:GAct):Bool:=decide (0≤a.n∧a.n<6) && !(a.kind==7 && !decide (0≤a.m∧a.m≤400))
noncomputable def q5y (c:GCluster) (net:List ByteArray) (a:GAct):GReply × GCluster × List ByteArray :=
 bif q22 a then
  bif !(qaz c.down a.n.toNat==(a.kind==8)) then (qrc 6,c,net) else
  bif a.kind==7 then (qrc 0,{ c with tear:=c.tear.setIfInBounds a.n.toNat (a.m+1) },net) else
  bif a.kind==6 then (qrc 0,q5v c a.n.toNat,net) else (qrc 0,q5x c a.n.toNat,net)
 else (qrc 2,c,net)
theorem qq4 {fu:Nat} (hfu:70000≤fu) {c:GCluster} {net:List ByteArray} (h:CInv c net) {a:GAct} (h0:0≤a.n) (h6:a.n<6) (hm:(a.kind==7)=true→0≤a.m∧a.m≤400):qdg fu c net a false =
 some (bif !(qaz c.down a.n.toNat==(a.kind==8)) then (qrc 6,c,net) else bif a.kind==7 then (qrc 0,{ c with tear:=c.tear.setIfInBounds a.n.toNat (a.m+1) },net) else bif a.kind==6 then (qrc 0,q5v c a.n.toNat,net) else (qrc 0,q5x c a.n.toNat,net)):=by
 have hn:a.n.toNat<6:=by omega
 have ex:((a.n.toNat:Nat):Int)=a.n:=by omega
 have hlog:=h.log _ hn;unfold qdg;rw [cond_false,qak h0 h6,qaa,ql0 h0 h6,qaa];cases hd:(!(qaz c.down a.n.toNat==(a.kind==8)))
 ·rw [cond_false,cond_false];cases h7:(a.kind==7)
  ·rw [cond_false,cond_false];cases h6k:(a.kind==6)
   ·obtain ⟨r1,r2,r3⟩:=qpd _ (qaz c.logs a.n.toNat).data.toList (Aa _);have hdl:(qaz c.logs a.n.toNat).data.toList.length=(qaz c.logs a.n.toNat).size:=rfl;have hcut:qr4 (qaz c.logs a.n.toNat) none (some ((qb0 (qaz c.logs a.n.toNat).data.toList).2:Int))=some ((qaz c.logs a.n.toNat).extract 0 (qb0 (qaz c.logs a.n.toNat).data.toList).2):=by
     unfold qr4 qg2;simp only [Ae,Bi];rw [if_pos E8,Db];rfl
    have hrep:qgh fu a.n (qb0 (qaz c.logs a.n.toNat).data.toList).1=some (qfv a.n (qb0 (qaz c.logs a.n.toNat).data.toList).1 zeroN):=by
     rw [qv1 E8 E8 (fun x hx=>by have:=r3 x hx;omega),qac (show 0≤a.n∧a.n<6 from ⟨h0,h6⟩),cond_true]
    rw [cond_false,cond_false,qaa,ql0 h0 h6,qaa,q5h hlog E8,qaa,qaa,qaa,hcut,qaa,qaa,qfh (by rw [Bk];omega),qaa,qaa,qar h0 h6,qaa,qaa,
     hrep,qaa,qaa,ql0 h0 h6,qaa,qar h0 h6,qaa,qaa,qaa,ql0 h0 h6,qaa,qar h0 h6,qaa,qaa]
    unfold qid q5x;rw [ex];rfl
   ·rw [cond_true,cond_true,qaa,qaa,ql0 h0 h6,qaa,qar h0 h6,qaa,qaa,qaa,ql0 h0 h6,qaa,qar h0 h6,qaa,qaa,qaa,ql0 h0 h6,qaa,qar h0 h6,qaa,qaa];rfl
  ·have:=hm h7;rw [cond_true,cond_true,qaa,ql0 h0 h6,qaa,qa2 E8 E8,qar h0 h6,qaa,qaa];rfl
 ·rfl
theorem q23 {fu:Nat} (hfu:70000≤fu) {c:GCluster} {net:List ByteArray} (h:CInv c net) {a:GAct}:qqc fu c net a=some (q5y c net a):=by
 have hno:qdg fu c net a true=some (qrc 2,c,net):=rfl;unfold qqc q5y q22;by_cases h0:a.n<0
 ·rw [qae (qac h0),qab (show ¬ (0≤a.n∧a.n<6) by omega),hno];rfl
 ·rw [qad (qab h0)];by_cases h6:a.n≥6
  ·rw [qae (qac h6),qab (show ¬ (0≤a.n∧a.n<6) by omega),hno];rfl
  ·rw [qad (qab h6),qac (show 0≤a.n∧a.n<6 by omega),Aj];cases h7:(a.kind==7)
   ·rw [cond_false,B1,Ah,cond_true,qq4 hfu h E8 E8 (fun e=>by rw [h7] at e;cases e),h7]
   ·rw [cond_true,Aj];by_cases m0:a.m<0
    ·rw [qae (qac m0),qab (show ¬ (0≤a.m∧a.m≤400) by omega),hno];rfl
    ·rw [qad (qab m0)];by_cases m4:a.m>400
     ·rw [qac m4,qab (show ¬ (0≤a.m∧a.m≤400) by omega),hno];rfl
     ·rw [qab m4,qac (show 0≤a.m∧a.m≤400 by omega),qq4 hfu h E8 E8 (fun _=>by omega),h7];rfl
def zcv (c:GCluster) (net:List ByteArray) (a:GAct):GReply × GCluster × List ByteArray :=
 bif decide (0≤a.n∧a.n<c.begun) then (q04 c a.n,c,qjs net (qjj (qaz c.cases a.n.toNat) a.n)) else (qrc 4,c,net)
noncomputable def doA (c:GCluster) (net:List ByteArray) (a:GAct):GReply × GCluster × List ByteArray :=
 bif a.kind==1 then q82 c net a.ops else
 bif a.kind==2||(a.kind==3||a.kind==4) then q06 c net a else
 bif a.kind==5 then zcv c net a else
 bif a.kind==6||(a.kind==7||a.kind==8) then q5y c net a else (qrc 3,c,net)
noncomputable def qv2 (c:GCluster) (net:List ByteArray) (a:GAct):GReply × GCluster × List ByteArray :=
 bif decide (c.acts≥400) then (qrc 5,c,net) else doA { c with acts:=c.acts+1 } net a
theorem CInv.act {c:GCluster} {net:List ByteArray} (h:CInv c net) (ha:¬ c.acts≥400):CInv { c with acts:=c.acts+1 } net :=
 ⟨by have:=h.acts;exact ⟨by show 0≤c.acts+1;omega,by show c.acts+1≤400;omega⟩,h.begun,h.node,h.down,h.log,h.tear,h.cas,h.net⟩
theorem q5z {fu:Nat} (hfu:70000≤fu) {c:GCluster} {net:List ByteArray} (h:CInv c net) {a:GAct} (h0:0≤a.n) (h1:a.n<c.begun) {d:GReply}:qt9 fu net a c d=some (q04 c a.n,c,qjs net (qjj (qaz c.cases a.n.toNat) a.n)):=by
 have:=h.begun.2;have hl:=(againC_small (c:=qaz c.cases a.n.toNat) (id:=a.n)).1;unfold qt9;rw [qak h0 E8,qaa,ql0 h0 E8,qaa,qu0 E8,qaa,qn4 E8 E8,qaa,qxh E8 h0 E8,qaa,qaa]
theorem q98 {fu:Nat} (hfu:70000≤fu) {c:GCluster} {net:List ByteArray} (h:CInv c net) {a:GAct}:q7z fu c net a=some (qv2 c net a):=by
 unfold q7z qv2;by_cases ha:c.acts≥400
 ·rw [qae (qac ha),qae (qac ha)];rfl
 ·have hi:=h.act ha;have hacts:=h.acts;rw [qad (qab ha),qad (qab ha),qa2 E8 E8,qaa];generalize ({ c with acts:=c.acts+1 }:GCluster)=d at hi;unfold doA;have hfr:∀ (b:Bool),b=true→qmk fu net a d b=some (q06 d net a):=fun b hb=>by
   rw [qmk,hb,cond_true,q21 E8 hi];rfl
  have hpo:∀ (b:Bool),b=true→qpc fu net a d b=some (q5y d net a):=fun b hb=>by
   rw [qpc,hb,cond_true,q23 hfu hi];rfl
  cases k1:(a.kind==1)
  ·rw [cond_false,cond_false];cases k2:(a.kind==2)
   ·rw [cond_false,A9];cases k3:(a.kind==3)
    ·rw [cond_false,A9];cases k4:(a.kind==4)
     ·rw [cond_false,qmk,cond_false];cases k5:(a.kind==5)
      ·rw [cond_false,cond_false];cases k6:(a.kind==6)
       ·rw [cond_false,A9];cases k7:(a.kind==7)
        ·rw [cond_false,A9];cases k8:(a.kind==8)
         ·rfl
         ·rw [hpo true rfl];rfl
        ·rw [hpo true rfl];rfl
       ·rw [hpo true rfl];rfl
      ·rw [cond_true,cond_true];unfold zcv qua;by_cases n0:a.n<0
       ·rw [qae (qac n0),qab (show ¬ (0≤a.n∧a.n<d.begun) by omega)];rfl
       ·rw [qad (qab n0)];by_cases nb:a.n≥d.begun
        ·rw [qac nb,qab (show ¬ (0≤a.n∧a.n<d.begun) by omega)];rfl
        ·rw [qab nb,qac (show 0≤a.n∧a.n<d.begun by omega),cond_false,cond_true];exact q5z hfu hi E8 E8
     ·rw [hfr true rfl];rfl
    ·rw [cond_true,hfr true rfl];rfl
   ·rw [cond_true,hfr true rfl];rfl
  ·rw [cond_true,cond_true,q20 E8 hi,qaa,qaa]
theorem q07 (a b:List Int):qam (qlq a b)=true:=(qvp a b 32 E8).1
structure Gathers (t:GTxn) (told:Vector Bool 6) (c:GCase) (deps:List Int):Prop where
 htold:c.told=told
 hdeps:c.deps=deps
 hops:c.ops=t.ops
 small:deps.length≤32
 enough:c.fixed=true→qgo c=true
theorem q08 {c d:GCase} (h1:c.ops=d.ops) (h2:c.told=d.told):qgo c=qgo d:=by unfold qgo;rw [h1,h2]
theorem Gathers.same {t:GTxn} {told:Vector Bool 6} {c d:GCase} {deps:List Int} (h:Gathers t told c deps) (h1:d.told=c.told) (h2:d.deps=c.deps) (h3:d.ops=c.ops) (h4:d.fixed=c.fixed):Gathers t told d deps :=
 ⟨h1.trans h.htold,h2.trans h.hdeps,h3.trans h.hops,h.small,fun hf=>by rw [q08 h3 h1];exact h.enough (by rw [← h4];exact hf)⟩
structure OfTxn (t:GTxn) (c:GCase):Prop where
 begun:c.begun=true
 ops:c.ops=t.ops
 good:qaj t.ops=true
 none:c.fixed=false→∀ k,qav c.has k=false
theorem q8n (k:Int):qa4 k=0∨qa4 k=1:=by
 unfold qa4;split
 ·exact .inl rfl
 ·exact .inr rfl
theorem qry {has:Nat→Bool} {s:Int}:∀ (l:List GOp) (k:Nat),qoi has s l k=true→∀ i o,l[i]? = some o→qa4 o.key=s→has (k+i)=true
 | [],_,_,i,o,h,_=>by simp at h
 | a::t,k,h,i,o,hi,hs=>by
  rw [qoi] at h;cases hb:(qa4 a.key==s && !has k) with
  | true=>rw [hb] at h;cases h
  | false =>
   rw [hb] at h;cases i with
   | zero =>
    cases hi;have e:(qa4 a.key==s)=true:=by simp [hs]
    rw [e,Aj] at hb;simpa using hb
   | succ i =>
    have:=qry t (k+1) h i o hi hs;rw [show k+(i+1)=k+1+i from by omega];exact this
theorem qxj {c:GCase} (h0:qed c 0=true) (h1:qed c 1=true) {i:Nat} (hi:i<c.ops.length):qav c.has i=true:=by
 have hx:c.ops[i]? = some c.ops[i]:=by simp
 rcases q8n c.ops[i].key with h | h
 ·have:=qry c.ops 0 h0 i _ hx h;rwa [B4] at this
 ·have:=qry c.ops 0 h1 i _ hx h;rwa [B4] at this
theorem qrz {c:GCase} (h:(qee c).2=true):c.begun=true∧qdm c=true∧qed c 0=true∧qed c 1=true∧(qee c).1=c.values.toList.take c.ops.length:=by
 unfold qee at h ⊢;cases h1:c.begun&&(qdm c&&(qed c 0&&qed c 1)) with
 | false=>rw [h1] at h;cases h
 | true =>
  simp only [X1] at h1;exact ⟨h1.1,h1.2.1,h1.2.2.1,h1.2.2.2,rfl⟩
theorem OfTxn.len {t:GTxn} {c:GCase} (h:OfTxn t c):0<c.ops.length∧c.ops.length≤4:=by
 rw [h.ops];exact qc6 h.good
theorem OfTxn.fixed {t:GTxn} {c:GCase} (h:OfTxn t c) (hr:(qee c).2=true):c.fixed=true:=by
 obtain ⟨_,_,h0,h1,_⟩:=qrz hr;cases hf:c.fixed with
 | true=>rfl
 | false =>
  have:=qxj h0 h1 h.len.1;rw [h.none hf 0] at this;cases this
theorem OfTxn.length {t:GTxn} {c:GCase} (h:OfTxn t c) (hr:(qee c).2=true):(qee c).1.length=t.ops.length:=by
 obtain ⟨_,_,_,_,e⟩:=qrz hr;have:=h.len;rw [e,Bn,h.ops];rw [h.ops] at this;simp;omega
theorem qxk {sh:Int}:∀ {at_ vs:List Int} {c:GCase},(∀ n∈at_,0≤n)→(∀ i,i<c.ops.length→qav c.has i=true)→qkj sh c at_ vs=c
 | [],_,_,_,_=>by unfold qkj;rfl
 | _::_,[],_,_,_=>by unfold qkj;rfl
 | k::at_,v::vs,c,hn,h=>by
  have e:qbh sh c k v=c:=by
   unfold qbh;by_cases hk:k<(c.ops.length:Int)
   ·have h0:=hn k X2;rw [h k.toNat E8];simp
   ·rw [qab hk];rfl
  unfold qkj;rw [e];exact qxk (fun n hm=>hn n (X0 _ hm)) h
theorem qvb {c:GCase} {id:Int} {f:GFrame} (h:(qbz c id f).2.2=0):qaf f=0∧(((qbz c id f).1=c)∨(c.fixed=false∧(qbz c id f).1=q2w (qlg c f))∨(c.fixed=true∧(qbz c id f).1={ c with known:=c.known.setIfInBounds f.node.toNat true })∨(c.fixed=true∧(qbz c id f).1=qkj (ofZ f.node) c f.at_ f.vals)):=by
 unfold qbz at h ⊢;cases ht:qvy c id f
 ·rw [ht] at h;simp at h
 ·rw [ht] at h;simp only [cond_true] at h ⊢;cases hz:(qaf f==0)
  ·rw [hz] at h;simp only [cond_false] at h;rw [h] at hz;cases hz
  ·refine ⟨by simpa using hz,?_⟩;rw [hz] at h;simp only [cond_true] at h ⊢;unfold qos at h ⊢;cases hk2:(f.kind==2)
   ·simp only [cond_false];cases hk4:(f.kind==4)
    ·simp only [cond_false];cases hk5:(f.kind==5)
     ·rw [hk2,hk4,hk5] at h;simp at h
     ·cases hfx:c.fixed
      ·exact .inl rfl
      ·exact .inr (.inr (.inr ⟨rfl,rfl⟩))
    ·cases hfx:c.fixed
     ·exact .inl rfl
     ·exact .inr (.inr (.inl ⟨rfl,rfl⟩))
   ·simp only [cond_true];cases hfx:c.fixed
    ·cases (qav c.told f.node.toNat || !qag c.ops (ofZ f.node))
     ·exact .inr (.inl ⟨rfl,rfl⟩)
     ·exact .inl rfl
    ·exact .inl rfl
theorem qxl {c d:GCase} (h1:d.begun=c.begun) (h2:d.ops=c.ops) (h3:d.deps=c.deps) (hb:c.begun=true):qdm d=qdm c:=by
 unfold qdm;rw [h1,h2,h3,hb];rfl
theorem OfTxn.take {t:GTxn} {c:GCase} (h:OfTxn t c) {f:GFrame} (h0:(qbz c t.id f).2.2=0):OfTxn t (qbz c t.id f).1∧((qee c).2=true→qee (qbz c t.id f).1=qee c):=by
 obtain ⟨hz,hk⟩:=qvb h0;rcases hk with e | ⟨hf,e⟩ | ⟨hf,e⟩ | ⟨hf,e⟩
 ·rw [e];exact ⟨h,fun _=>rfl⟩
 ·rw [e];refine ⟨⟨h.begun,h.ops,h.good,fun _=>h.none hf⟩,fun hr=>?_⟩;rw [h.fixed hr] at hf;cases hf
 ·rw [e];refine ⟨⟨h.begun,h.ops,h.good,fun hn=>?_⟩,fun _=>?_⟩
  ·have hn:c.fixed=false:=hn;rw [hn] at hf;cases hf
  ·unfold qee;have hg:qdm { c with known:=c.known.setIfInBounds f.node.toNat true }=qdm c:=qxl rfl rfl rfl h.begun;rw [hg];rfl
 ·rw [e];have hd:=doneL_same (sh:=ofZ f.node) (at_:=f.at_) (vs:=f.vals) (c:=c);refine ⟨⟨hd.2.2.1.trans h.begun,hd.1.trans h.ops,h.good,fun hn=>?_⟩,fun hr=>?_⟩
  ·rw [hd.2.1,hf] at hn;cases hn
  ·obtain ⟨_,_,w0,w1,_⟩:=qrz hr;rw [qxk (fun n hn=>((q2v hz).mem n hn).1) fun i hi=>qxj w0 w1 hi]
theorem q24 {c:GCase} {id:Int} {f:GFrame} (h:(qbz c id f).2.2=0):qvy c id f=true:=by
 unfold qbz at h;cases ht:qvy c id f
 ·rw [ht] at h;exact absurd (show (2:Int)=0 from h) E9
 ·rfl
theorem q99 {c:GCase} {id:Int} {f:GFrame} (h:(qbz c id f).2.2≠0):(qbz c id f).1=c∧(qbz c id f).2.1=[]:=by
 unfold qbz at *;cases ht:qvy c id f
 ·exact ⟨rfl,rfl⟩
 ·rw [ht,cond_true] at h;rw [cond_true];cases hz:(qaf f==0)
  ·exact ⟨rfl,rfl⟩
  ·rw [hz,cond_true] at h;rw [cond_true];unfold qos at *;cases h2:(f.kind==2)
   ·rw [h2,cond_false] at h;rw [cond_false];cases h4:(f.kind==4)
    ·rw [h4,cond_false] at h;rw [cond_false];cases h5:(f.kind==5)
     ·exact ⟨rfl,rfl⟩
     ·rw [h5,cond_true] at h;cases hf:c.fixed
      ·exact ⟨rfl,rfl⟩
      ·rw [hf] at h;exact absurd rfl h
    ·rw [h4,cond_true] at h;cases hf:c.fixed
     ·exact ⟨rfl,rfl⟩
     ·rw [hf] at h;exact absurd rfl h
   ·rw [h2,cond_true] at h;cases hb:(c.fixed||(qav c.told f.node.toNat || !qag c.ops (ofZ f.node)))
    ·rw [hb] at h;exact absurd rfl h
    ·exact ⟨rfl,rfl⟩
theorem qpj {c:GCase} (h:qdm c=true) (hb:c.begun=true):qaj c.ops=true∧qam c.deps=true:=by
 unfold qdm at h;rw [hb,cond_true,X1] at h;exact h
theorem qy0 {c:GCase} (hb:c.begun=true) (h1:qaj c.ops=true) (h2:qam c.deps=true):qdm c=true:=by
 unfold qdm;rw [hb,cond_true,h1,h2];rfl
theorem q50 {c:GCase} {id:Int} {f:GFrame} (h:qdm c=true):qdm (qbz c id f).1=true:=by
 by_cases hz:(qbz c id f).2.2=0
 ·have ht:=q24 hz;unfold qvy at ht;simp only [X1] at ht;have hb:=ht.2.1;obtain ⟨h1,h2⟩:=qpj h hb;obtain ⟨_,e | ⟨_,e⟩ | ⟨_,e⟩ | ⟨_,e⟩⟩:=qvb hz
  ·rw [e];exact h
  ·rw [e];exact qy0 hb h1 (q07 _ _)
  ·rw [e];exact qy0 hb h1 h2
  ·rw [e,qxl doneL_same.2.2.1 doneL_same.1 doneL_same.2.2.2.1 hb];exact h
 ·rw [(q99 hz).1];exact h
theorem qy1:qdm noC=true:=by decide +kernel
theorem q25 (t:GTxn):qdm (qeo t).1=true:=by
 unfold qeo;cases decide (0≤t.id∧t.id<32)
 ·exact qy1
 ·cases h:qaj t.ops
  ·exact qy1
  ·exact qy0 rfl h (show qam []=true by decide)
theorem CInv.sent {c:GCluster} {net:List ByteArray} (h:CInv c net) (l:List GFrame):CInv c (qjs net l) :=
 ⟨h.acts,h.begun,h.node,h.down,h.log,h.tear,h.cas,qpi l net h.net.1 h.net.2⟩
theorem CInv.setCase {c:GCluster} {net:List ByteArray} (h:CInv c net) {n:Nat} (hn:n<32) {x:GCase} (hx:qdm x=true):CInv { c with cases:=c.cases.setIfInBounds n x } net:=by
 refine ⟨h.acts,h.begun,h.node,h.down,h.log,h.tear,fun k hk=>?_,h.net⟩;show qdm (qaz (c.cases.setIfInBounds n x) k)=true;rw [qgx hn];by_cases e:n=k
 ·rw [if_pos e];exact hx
 ·rw [if_neg e];exact h.cas k hk
theorem CInv.setLog {c:GCluster} {net:List ByteArray} (h:CInv c net) {n:Nat} (hn:n<6) {x:ByteArray} (hx:x.size≤65536):CInv { c with logs:=c.logs.setIfInBounds n x } net:=by
 refine ⟨h.acts,h.begun,h.node,h.down,fun k hk=>?_,h.tear,h.cas,h.net⟩;show (qaz (c.logs.setIfInBounds n x) k).size≤65536;rw [qgx hn];by_cases e:n=k
 ·rw [if_pos e];exact hx
 ·rw [if_neg e];exact h.log k hk
theorem CInv.setTear {c:GCluster} {net:List ByteArray} (h:CInv c net) {n:Nat} (hn:n<6) {x:Int} (hx:0≤x∧x≤401):CInv { c with tear:=c.tear.setIfInBounds n x } net:=by
 refine ⟨h.acts,h.begun,h.node,h.down,h.log,fun k hk=>?_,h.cas,h.net⟩;show 0≤qaz (c.tear.setIfInBounds n x) k∧qaz (c.tear.setIfInBounds n x) k≤401;rw [qgx hn];by_cases e:n=k
 ·rw [if_pos e];exact hx
 ·rw [if_neg e];exact h.tear k hk
theorem CInv.setNode {c:GCluster} {net:List ByteArray} (h:CInv c net) {n:Nat} (hn:n<6) {x:GNode} {b:Bool} (hx:GoodN x) (hb:b=true→x=zeroN):CInv { c with nodes:=c.nodes.setIfInBounds n x,down:=c.down.setIfInBounds n b } net:=by
 refine ⟨h.acts,h.begun,fun k hk=>?_,fun k hk=>?_,h.log,h.tear,h.cas,h.net⟩
 ·show GoodN (qaz (c.nodes.setIfInBounds n x) k);rw [qgx hn];by_cases e:n=k
  ·rw [if_pos e];exact hx
  ·rw [if_neg e];exact h.node k hk
 ·show qaz (c.down.setIfInBounds n b) k=true→qaz (c.nodes.setIfInBounds n x) k=zeroN;rw [qgx hn,qgx hn];by_cases e:n=k
  ·rw [if_pos e,if_pos e];exact hb
  ·rw [if_neg e,if_neg e];exact h.down k hk
theorem CInv.fall {c:GCluster} {net:List ByteArray} (h:CInv c net) {n:Nat} (hn:n<6):CInv (q5v c n) net :=
 (h.setNode hn (b:=true) qi7 fun _=>rfl).setTear hn ⟨by omega,by omega⟩
theorem qy2 {c:GCluster} {n:Nat} {b:Bool} (h:qaz c.down n=b) (hn:n<6):c.down.setIfInBounds n b=c.down:=by
 refine Vector.ext fun i hi=>?_;rw [B3];by_cases e:n=i
 ·subst e;rw [if_pos rfl,← h];unfold qaz;simp [hi]
 ·rw [if_neg e]
theorem CInv.come {c:GCluster} {net:List ByteArray} (h:CInv c net) {n:Nat} (hn:n<6) {f:GFrame} {s:ByteArray}:CInv (qfc c net n f s).2.1 (qfc c net n f s).2.2:=by
 have hlog:=h.log n hn;unfold qfc;cases hd:qaz c.down n
 ·rw [cond_false];cases h1:((qcj (qaz c.nodes n) n f).2.2 != 0)
  ·have h1:(qcj (qaz c.nodes n) n f).2.2=0:=by simpa using h1
   rw [cond_false];by_cases h2:qaz c.tear n>0
   ·rw [qae (qac h2)];exact (h.setLog hn (qrx hlog)).fall hn
   ·rw [qad (qab h2)];cases h3:(qdl (qaz c.logs n) s != 0)
    ·have h':=((h.setLog hn (qq2 (s:=s) hlog)).setNode hn (x:=(qcj (qaz c.nodes n) n f).1) (b:=false) (qif h1) fun e=>by cases e).sent (qcj (qaz c.nodes n) n f).2.1;have e:=qy2 hd hn;have e:({ c with logs:=c.logs.setIfInBounds n (qvq (qaz c.logs n) s) }:GCluster).down.setIfInBounds n false=c.down:=e;rw [e] at h';exact h'
    ·exact h.setLog hn (qq2 hlog)
  ·exact h
 ·exact h
theorem CInv.beg {c:GCluster} {net:List ByteArray} (h:CInv c net) {ops:List GOp}:CInv (q82 c net ops).2.1 (q82 c net ops).2.2:=by
 obtain ⟨h0,h1⟩:=h.begun;unfold q82;by_cases h32:c.begun≥32
 ·rw [qae (qac h32)];exact h
 ·rw [qad (qab h32)];cases hc:((qeo { id:=c.begun,ops:=ops }).2.2 != 0)
  ·have h':=(h.setCase (n:=c.begun.toNat) E8 (q25 { id:=c.begun,ops:=ops })).sent (qeo { id:=c.begun,ops:=ops }).2.1;exact ⟨h'.acts,⟨by show 0≤c.begun+1;omega,by show c.begun+1≤32;omega⟩,h'.node,h'.down,h'.log,h'.tear,h'.cas,h'.net⟩
  ·exact h
theorem CInv.frm2 {c:GCluster} {net:List ByteArray} (h:CInv c net) {kind:Int} {f:GFrame} {s:ByteArray} (hn:0≤f.node∧f.node<6) (hi:0≤f.id∧f.id<32):CInv (frm2 c net kind f s).2.1 (frm2 c net kind f s).2.2:=by
 unfold Go.Proofs.YtaimhfbbenbdaaaGreat.frm2;cases (kind==4)
 ·cases (f.kind==1||f.kind==3)
  ·rw [cond_false,cond_false];cases ((qbz (qaz c.cases f.id.toNat) f.id f).2.2 != 0)
   ·exact (h.setCase E8 (q50 (h.cas _ E8))).sent _
   ·exact h
  ·exact h.come E8
 ·exact h
theorem CInv.frm {c:GCluster} {net:List ByteArray} (h:CInv c net) {a:GAct}:CInv (q06 c net a).2.1 (q06 c net a).2.2:=by
 unfold q06;obtain ⟨hn,hi⟩:=q8m (byL (qjm net a.n));cases decide (0≤a.n∧a.n<net.length)
 ·exact h
 ·rw [cond_true];refine CInv.frm2 ?_ hn hi;cases (a.kind==3)
  ·exact h.cut (fun s hs=>Bz hs) (Dy ..)
  ·exact h
theorem CInv.pow {c:GCluster} {net:List ByteArray} (h:CInv c net) {a:GAct}:CInv (q5y c net a).2.1 (q5y c net a).2.2:=by
 unfold q5y;cases hp:q22 a
 ·exact h
 ·unfold q22 at hp;simp only [X1,decide_eq_true_eq] at hp;obtain ⟨⟨h0,h6⟩,hm⟩:=hp;have hn:a.n.toNat<6:=by omega
  rw [cond_true];cases (!(qaz c.down a.n.toNat==(a.kind==8)))
  ·rw [cond_false];cases h7:(a.kind==7)
   ·rw [cond_false];cases (a.kind==6)
    ·have hr:CInv (q5x c a.n.toNat) net:=(h.setLog hn (x:=(qaz c.logs a.n.toNat).extract 0 (qb0 (qaz c.logs a.n.toNat).data.toList).2) (by have:=h.log _ hn;rw [Bk];omega)).setNode hn (b:=false) (qss _ qi7) fun e=>by cases e
     exact hr
    ·exact h.fall hn
   ·rw [h7] at hm;simp only [Aj,Bool.not_not,decide_eq_true_eq] at hm;exact h.setTear hn ⟨by omega,by omega⟩
  ·exact h
theorem CInv.do {c:GCluster} {net:List ByteArray} (h:CInv c net) {a:GAct}:CInv (qv2 c net a).2.1 (qv2 c net a).2.2:=by
 unfold qv2;by_cases ha:c.acts≥400
 ·rw [qae (qac ha)];exact h
 ·rw [qad (qab ha)];have hi:=h.act ha;unfold doA;cases (a.kind==1)
  ·rw [cond_false];cases (a.kind==2||(a.kind==3||a.kind==4))
   ·rw [cond_false];cases (a.kind==5)
    ·rw [cond_false];cases (a.kind==6||(a.kind==7||a.kind==8))
     ·exact hi
     ·exact hi.pow
    ·rw [cond_true];unfold zcv;cases decide (0≤a.n∧a.n<({ c with acts:=c.acts+1 }:GCluster).begun)
     ·exact hi
     ·exact hi.sent _
   ·exact hi.frm
  ·exact hi.beg
def qv3:GCluster:={ nodes:=Zr.zd,logs:=Zr.zd,down:=Zr.zd,tear:=Zr.zd,cases:=Zr.zd,begun:=Zr.zd,net:=Zr.zd,acts:=Zr.zd }
theorem q8o {fu:Nat}:q34 fu=some (qv3,[]):=rfl
theorem q8p:CInv qv3 []:=by
 refine ⟨⟨by show (0:Int)≤0;omega,by show (0:Int)≤400;omega⟩,⟨by show (0:Int)≤0;omega,by show (0:Int)≤32;omega⟩,fun n _=>?_,fun n _ _=>?_,fun n _=>?_,fun n _=>?_,fun n _=>?_,by simp,by simp⟩
 ·show GoodN (qaz (Zr.zd:Vector GNode 6) n);rw [qkk];exact qi7
 ·show qaz (Zr.zd:Vector GNode 6) n=zeroN;rw [qkk];rfl
 ·show (qaz (Zr.zd:Vector ByteArray 6) n).size≤65536;rw [qkk];show (⟨#[]⟩:ByteArray).size≤65536;decide
 ·show 0≤qaz (Zr.zd:Vector Int 6) n∧qaz (Zr.zd:Vector Int 6) n≤401;rw [qkk];exact ⟨by show (0:Int)≤0;omega,by show (0:Int)≤401;omega⟩
 ·show qdm (qaz (Zr.zd:Vector GCase 32) n)=true;rw [qkk];exact qy1
noncomputable def goZ:GCluster→List ByteArray→List GAct→List GReply × GCluster × List ByteArray
 | c,net,[]=>([],c,net)
 | c,net,a::t=>((qv2 c net a).1::(goZ (qv2 c net a).2.1 (qv2 c net a).2.2 t).1,(goZ (qv2 c net a).2.1 (qv2 c net a).2.2 t).2)
theorem q26:∀ (l:List GAct) (c:GCluster) (net:List ByteArray),(goZ c net l).1.length=l.length
 | [],_,_=>rfl
 | a::t,c,net=>by
  show (goZ _ _ t).1.length+1=t.length+1;rw [q26 t]
end Go.Proofs.YtaimhfbbenbdaaaGreat
