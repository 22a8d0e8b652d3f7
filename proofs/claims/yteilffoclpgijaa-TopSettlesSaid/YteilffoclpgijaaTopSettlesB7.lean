/- What the proof of TopSettles rests on, part 7: rules of walks, what functions compute, and plain laws of it. -/
import Derived.Test.YteilffoclpgijaaTopSettlesB6
namespace Go.Proofs.Yteilffoclpgijaa
open Go.RowKit
open Rep (rep)
theorem hasZ_iff {l:List Int} {n:Int}:qcp l n=true↔n∈l:=by
 unfold qcp
 rw [List.any_eq_true]
 constructor
 ·rintro ⟨x,hx,e⟩
  rw [← beq_iff_eq.1 e]
  exact hx
 ·exact fun h=>⟨n,h,by simp⟩
theorem mem_union {a b:List Int} {n:Int}:n∈qgx a b↔(0≤n∧n<32)∧(n∈a∨n∈b):=by
 rw [← hasZ_iff,← hasZ_iff (l:=a),← hasZ_iff (l:=b)]
 unfold qgx
 rw [qv9,Bool.and_eq_true,decide_eq_true_eq,Bool.or_eq_true]
 exact Iff.rfl
theorem qhh {n:Nat} (k:Nat):qam (Zr.zd:Vector Bool n) k=false:=by
 show qam (Vector.replicate n false) k=false
 unfold qam
 by_cases hk:k<n<;>simp [hk]
theorem PInv.recase {c d:GCluster} {net:List ByteArray} {b:Nat} (h:PInv c net b) (hinv:CInv d net) (hl:d.logs=c.logs) (hn:d.nodes=c.nodes) (hd:d.down=c.down) (hcnt : ∀ i:Nat,i<32→(qab d.cases i).begun=decide ((i:Int)<d.begun))
  (hgc : ∀ i,i<32→(qab c.cases i).begun=true→(qab d.cases i).begun=true∧(qab d.cases i).ops=(qab c.cases i).ops∧((qab c.cases i).fixed=true→(qab d.cases i).fixed=true∧(qab d.cases i).deps=(qab c.cases i).deps))
  (hcas:Grow c d → ∀ i,i<32→(qab d.cases i).begun=true→CaseP d i):Grow c d∧PInv d net b:=by
 have hdur : ∀ n,dur d n=dur c n:=fun n=>by unfold dur;rw [hl]
 have hg:Grow c d:=⟨hgc,fun n _=>by rw [hdur];exact .refl _⟩
 refine ⟨hg,hinv,hcnt,fun n hn' => ?_,fun n hn' hd' => ?_,fun n hn'=>by rw [hl];exact h.len n hn',fun s hs => ?_,fun n hn' => ?_,hcas hg⟩
 ·show (qbc n (qaq (qab d.logs n).data.toList).1 zeroN).2=0
  rw [hl]
  exact h.rep n hn'
 ·rw [hd] at hd'
  obtain ⟨u1,u2⟩:=h.up n hn' hd'
  refine ⟨by rw [hdur,hn];exact u1,?_⟩
  show (qaq (qab d.logs n).data.toList).2=(qab d.logs n).size
  rw [hl]
  exact u2
 ·obtain ⟨f,e,hf⟩:=h.net s hs
  exact ⟨f,e,hf.grow hg⟩
 ·rw [hdur]
  exact (h.node n hn').grow hg
theorem qu7 {t:GTxn} (h:(qdb t).2.2=0):qap t.ops=true∧qdb t=(qun t.ops,qe9 (qun t.ops) t.id,0):=by
 unfold qdb at *
 cases h1:decide (0≤t.id∧t.id<32)
 ·rw [h1] at h
  exact absurd (show (2:Int)=0 from h) (by decide)
 ·rw [h1,cond_true] at h
  cases h2:qap t.ops
  ·rw [h2] at h
   exact absurd (show (1:Int)=0 from h) (by decide)
  ·exact ⟨rfl,rfl⟩
theorem qz2 {d:GCluster} {i:Nat} {ops:List GOp} (he:qab d.cases i=qun ops):CaseP d i:=by
 refine ⟨fun k _ ht => ?_,fun x hx => ?_,fun hf => ?_,fun k hk => ?_⟩
 ·rw [he] at ht
  have:=qhh (n:=6) k
  rw [show (qun ops).told=Zr.zd from rfl,this] at ht
  cases ht
 ·rw [he] at hx
  cases hx
 ·rw [he] at hf
  cases hf
 ·rw [he] at hk
  have:=qhh (n:=4) k
  rw [show (qun ops).has=Zr.zd from rfl,this] at hk
  cases hk
theorem PInv.beginG {c:GCluster} {net:List ByteArray} {b:Nat} (h:PInv c net b) {ops:List GOp}:Grow c (qrm c net ops).2.1∧PInv (qrm c net ops).2.1 (qrm c net ops).2.2 b:=by
 obtain ⟨h0,h1⟩:=h.inv.begun
 have hinv:=h.inv.beg (ops:=ops)
 unfold qrm at hinv ⊢
 by_cases h32:c.begun≥32
 ·rw [qaj (qaf h32)];exact ⟨.refl c,h⟩
 ·rw [qad (qae h32)] at hinv ⊢
  by_cases hc:(qdb { id:=c.begun,ops:=ops }).2.2=0
  ·obtain ⟨hgo,hbe⟩:=qu7 hc
   rw [qad (by simp [hc])] at hinv ⊢
   have hi:c.begun.toNat<32:=by omega
   have hiz:((c.begun.toNat:Nat):Int)=c.begun:=by omega
   have hset : ∀ k,qab (q6y c ops).cases k=if c.begun.toNat=k then qun ops else qab c.cases k:=fun k=>by
    show qab (c.cases.setIfInBounds _ _) k=_
    rw [qan hi,hbe]
   have hnb : ∀ i:Nat,i<32→(qab c.cases i).begun=true→c.begun.toNat≠i:=fun i hi' hb e=>by
    rw [h.cnt i hi',decide_eq_true_eq] at hb
    omega
   have hinv0:CInv (q6y c ops) net:=⟨hinv.acts,hinv.begun,hinv.node,hinv.down,hinv.log,hinv.tear,hinv.cas,h.inv.net⟩
   obtain ⟨hg,hp⟩:=h.recase (d:=q6y c ops) hinv0 rfl rfl rfl (fun i hi'=>by
     rw [hset,show (q6y c ops).begun=c.begun+1 from rfl]
     by_cases e:c.begun.toNat=i
     ·rw [if_pos e,qaf (by omega)];rfl
     ·rw [if_neg e,h.cnt i hi']
      by_cases hlt:(i:Int)<c.begun
      ·rw [qaf hlt,qaf (by omega)]
      ·rw [qae hlt,qae (by omega)]) (fun i hi' hb=>by
     rw [hset,if_neg (hnb i hi' hb)]
     exact ⟨hb,rfl,fun hf=>⟨hf,rfl⟩⟩) (fun hg i hi' hb=>by
     by_cases e:c.begun.toNat=i
     ·exact qz2 (ops:=ops) (by rw [hset,if_pos e])
     ·rw [hset,if_neg e] at hb
      exact (h.cas i hi' hb).grow hg hi' (by rw [hset,if_neg e]))
   refine ⟨hg,hp.send _ fun f hf hz => ?_⟩
   rw [hbe] at hf
   have hthis:qab (q6y c ops).cases c.begun.toNat=qun ops:=by rw [hset,if_pos rfl]
   refine qmy (c:=q6y c ops) hi (by rw [hthis];rfl) f ?_ hz
   rw [hthis,hiz]
   exact hf
  ·rw [qaj (by simp [hc])];exact ⟨.refl c,h⟩
theorem qu8 {c:GCase} {id:Int} {f:GFrame} (hk:f.kind=2∨f.kind=4∨f.kind=5):(qa1 c id f).2.2=0 ∧
  ((((qa1 c id f).1.begun=c.begun∧(qa1 c id f).1.ops=c.ops∧(qa1 c id f).1.told=c.told∧(qa1 c id f).1.deps=c.deps∧(qa1 c id f).1.fixed=c.fixed)∧(qa1 c id f).2.1=[] ∧
   (((qa1 c id f).1.has=c.has∧(qa1 c id f).1.values=c.values)∨(f.kind=5∧c.fixed=true∧(qa1 c id f).1=qdn (ofZ f.node) c f.at_ f.vals))) ∨
  (f.kind=2∧c.fixed=false∧(qa1 c id f).1=qnt (qdo c f)∧(qa1 c id f).2.1=bif qcb (qdo c f) then qe9 (qnt (qdo c f)) id else [])):=by
 unfold qa1
 rcases hk with e | e | e
 ·rw [e,show ((2:Int)==2)=true from rfl,cond_true]
  cases hf:(c.fixed||(qam c.told f.node.toNat || !qac c.ops (ofZ f.node)))
  ·rw [cond_false]
   refine ⟨rfl,.inr ⟨rfl,?_,rfl,rfl⟩⟩
   cases h:c.fixed
   ·rfl
   ·rw [h] at hf;cases hf
  ·rw [cond_true]
   exact ⟨rfl,.inl ⟨⟨rfl,rfl,rfl,rfl,rfl⟩,rfl,.inl ⟨rfl,rfl⟩⟩⟩
 ·rw [e,show ((4:Int)==2)=false from rfl,show ((4:Int)==4)=true from rfl,cond_false,cond_true]
  cases hf:c.fixed
  ·exact ⟨rfl,.inl ⟨⟨rfl,rfl,rfl,rfl,hf⟩,rfl,.inl ⟨rfl,rfl⟩⟩⟩
  ·exact ⟨rfl,.inl ⟨⟨rfl,rfl,rfl,rfl,rfl⟩,rfl,.inl ⟨rfl,rfl⟩⟩⟩
 ·rw [e,show ((5:Int)==2)=false from rfl,show ((5:Int)==4)=false from rfl,show ((5:Int)==5)=true from rfl,cond_false,cond_false,cond_true]
  cases hf:c.fixed
  ·exact ⟨rfl,.inl ⟨⟨rfl,rfl,rfl,rfl,hf⟩,rfl,.inl ⟨rfl,rfl⟩⟩⟩
  ·obtain ⟨a1,a2,a3,a4,a5,_⟩:=doneL_same (sh:=ofZ f.node) (at_:=f.at_) (vs:=f.vals) (c:=c)
   exact ⟨rfl,.inl ⟨⟨a3,a1,a5,a4,a2.trans hf⟩,rfl,.inr ⟨rfl,rfl,rfl⟩⟩⟩
theorem qu9 {sh:Int} : ∀ {at_ vs:List Int} {c:GCase} {k:Nat},(∀ n∈at_,0≤n∧n<4)→qam (qdn sh c at_ vs).has k=true →
  (qam c.has k=true∧(qdn sh c at_ vs).values[k]? = c.values[k]?) ∨ ∃ (m:Nat) (o:GOp),at_[m]? = some ((k:Nat):Int)∧vs[m]? = some ((qdn sh c at_ vs).values[k]?.getD 0)∧c.ops[k]? = some o∧qas o.key=sh
 | [],_,c,k,_,h=>by unfold qdn at *;exact .inl ⟨h,rfl⟩
 | _::_,[],c,k,_,h=>by unfold qdn at *;exact .inl ⟨h,rfl⟩
 | x::at_,v::vs,c,k,hm,h=>by
  rw [qdn] at h ⊢
  have hx:=hm x List.mem_cons_self
  have hops:=(qfp (sh:=sh) (c:=c) (k:=x) (v:=v)).1
  rcases qu9 (fun n hn=>hm n (List.mem_cons_of_mem _ hn)) h with ⟨h1,h2⟩ | ⟨m,o,h1,h2,h3,h4⟩
  ·rw [h2]
   unfold qbr at h1 ⊢
   cases hb:(decide (x<(c.ops.length:Int))&&(((idx c.ops x).map fun o=>qas o.key==sh).getD false && !qam c.has x.toNat))
   ·rw [hb,cond_false] at h1
    rw [cond_false]
    exact .inl ⟨h1,rfl⟩
   ·rw [hb,cond_true] at h1
    rw [cond_true]
    have h1:qam (c.has.setIfInBounds x.toNat true) k=true:=h1
    show (_∧(c.values.setIfInBounds x.toNat v)[k]? = _) ∨ ∃ (m:Nat) (o:GOp),_∧_=some ((c.values.setIfInBounds x.toNat v)[k]?.getD 0)∧_
    rw [qgk (by omega)] at h1
    rw [Vector.getElem?_setIfInBounds]
    by_cases e:x.toNat=k
    ·simp only [Bool.and_eq_true,decide_eq_true_eq] at hb
     obtain ⟨b1,b2,_⟩:=hb
     have hk4:x.toNat<4:=by omega
     rw [if_pos e,if_pos hk4]
     obtain ⟨o,ho⟩ : ∃ o,idx c.ops x=some o:=by
      unfold idx
      rw [if_pos hx.1]
      exact ⟨_,List.getElem?_eq_getElem (by omega)⟩
     rw [ho] at b2
     have ho':c.ops[k]? = some o:=by
      unfold idx at ho
      rw [if_pos hx.1,e] at ho
      exact ho
     exact .inr ⟨0,o,by rw [List.getElem?_cons_zero,← e];congr 1;omega,rfl,ho',by simpa using b2⟩
    ·rw [if_neg e] at h1 ⊢
     exact .inl ⟨h1,rfl⟩
  ·rw [hops] at h3
   exact .inr ⟨m+1,o,by rw [List.getElem?_cons_succ];exact h1,by rw [List.getElem?_cons_succ];exact h2,h3,h4⟩
theorem PInv.takeG {c:GCluster} {net:List ByteArray} {b:Nat} (h:PInv c net b) {f:GFrame} (hf:NetF c f) (hk:f.kind=2∨f.kind=4∨f.kind=5) :
  (qbz (qab c.cases f.id.toNat) f.id f).2.2=0∧Grow c { c with cases:=c.cases.setIfInBounds f.id.toNat (qbz (qab c.cases f.id.toNat) f.id f).1 }∧PInv { c with cases:=c.cases.setIfInBounds f.id.toNat (qbz (qab c.cases f.id.toNat) f.id f).1 } (qgj net (qbz (qab c.cases f.id.toNat) f.id f).2.1) b:=by
 obtain ⟨_,hnr,hid⟩:=qa6 hf.good
 have hi:f.id.toNat<32:=by omega
 have hn:f.node.toNat<6:=by omega
 have hiz:((f.id.toNat:Nat):Int)=f.id:=by omega
 have hnz:((f.node.toNat:Nat):Int)=f.node:=by omega
 have hbeg:=hf.ent.beg
 have hg:=h.inv.cas _ hi
 have hcp:=h.cas _ hi hbeg
 have htk:qnu (qab c.cases f.id.toNat) f.id f=true:=by
  unfold qnu
  rw [hg,hbeg,beq_self_eq_true,Bool.true_and,Bool.true_and,Bool.true_and]
  cases hh:qcp (qab c.cases f.id.toNat).deps f.id
  ·rfl
  ·obtain ⟨j,e1,_,e3,_⟩:=hcp.heard _ (hasZ_iff.1 hh)
   exact absurd (by omega) e3
 have htake:qbz (qab c.cases f.id.toNat) f.id f=qa1 (qab c.cases f.id.toNat) f.id f:=by
  unfold qbz
  rw [htk,hf.good]
  rfl
 have hgood:=qrr (id:=f.id) (f:=f) hg
 rw [htake] at hgood ⊢
 obtain ⟨h0,hcs⟩:=qu8 (c:=qab c.cases f.id.toNat) (id:=f.id) hk
 refine ⟨h0,?_⟩
 have hset : ∀ k,qab ({ c with cases:=c.cases.setIfInBounds f.id.toNat (qa1 (qab c.cases f.id.toNat) f.id f).1 }:GCluster).cases k=if f.id.toNat=k then (qa1 (qab c.cases f.id.toNat) f.id f).1 else qab c.cases k:=fun k=>qan hi
 have hinv:=h.inv.setCase hi hgood
 have hnode:=h.node _ hn
 have hb1:(qa1 (qab c.cases f.id.toNat) f.id f).1.begun=true:=by
  rcases hcs with ⟨⟨e,_⟩,_⟩ | ⟨_,_,e,_⟩
  ·rw [e];exact hbeg
  ·rw [e];exact hbeg
 have ho1:(qa1 (qab c.cases f.id.toNat) f.id f).1.ops=(qab c.cases f.id.toNat).ops:=takeOk_small.1
 have hbegs : ∀ j,(qab ({ c with cases:=c.cases.setIfInBounds f.id.toNat (qa1 (qab c.cases f.id.toNat) f.id f).1 }:GCluster).cases j).begun=(qab c.cases j).begun:=fun j=>by
  rw [hset]
  by_cases e:f.id.toNat=j
  ·rw [if_pos e,hb1,← e,hbeg]
  ·rw [if_neg e]
 have hhear : ∀ d∈f.deps,f.kind=2 → ∃ j:Nat,d=j∧j<32∧j≠f.id.toNat∧(qab c.cases j).begun=true:=fun d hd h2=>by
  obtain ⟨t1,t2⟩:=hf.ent.told h2
  rw [t2] at hd
  obtain ⟨j,e1,e2,e3,e4⟩:=hnode.heard _ hi t1 d hd
  exact ⟨j,e1,e2,e3,(hnode.beg j e2 e4).1⟩
 obtain ⟨hgr,hp⟩:=h.recase (d:={ c with cases:=c.cases.setIfInBounds f.id.toNat (qa1 (qab c.cases f.id.toNat) f.id f).1 }) hinv rfl rfl rfl (fun i hi'=>by rw [hbegs];exact h.cnt i hi') (fun i hi' hb=>by
   rw [hset]
   by_cases e:f.id.toNat=i
   ·rw [if_pos e,← e]
    refine ⟨hb1,ho1,fun hfx => ?_⟩
    rcases hcs with ⟨⟨_,_,_,e4,e5⟩,_⟩ | ⟨_,e2,_,_⟩
    ·exact ⟨e5.trans hfx,e4⟩
    ·rw [hfx] at e2;cases e2
   ·rw [if_neg e]
    exact ⟨hb,rfl,fun hfx=>⟨hfx,rfl⟩⟩) (fun hgr i hi' hb=>by
   by_cases e:f.id.toNat=i
   ·subst e
    have hthis:=hset f.id.toNat
    rw [if_pos rfl] at hthis
    rcases hcs with ⟨⟨_,e2,e3,e4,e5⟩,_,e6⟩ | ⟨h2,hnf,e,_⟩
    ·refine ⟨fun k hk ht => ?_,fun d hd => ?_,fun hfx => ?_,fun k hk => ?_⟩
     ·rw [hthis,e3] at ht
      rw [hthis,e4]
      exact hcp.told k hk ht
     ·rw [hthis,e4] at hd
      obtain ⟨j,a1,a2,a3,a4⟩:=hcp.heard d hd
      exact ⟨j,a1,a2,a3,by rw [hbegs];exact a4⟩
     ·rw [hthis] at hfx ⊢
      rw [e5] at hfx
      rw [qfc e2 e3]
      exact hcp.fix hfx
     ·rw [hthis] at hk ⊢
      rw [e2,e5]
      rcases e6 with ⟨e7,e8⟩ | ⟨h5,hfx,e7⟩
      ·rw [e7] at hk
       rw [e8]
       exact hcp.done k hk
      ·rw [e7] at hk ⊢
       rcases qu9 (qwt hf.good).mem hk with ⟨a1,a2⟩ | ⟨m,o,a1,a2,a3,a4⟩
       ·rw [a2]
        exact hcp.done k a1
       ·obtain ⟨d1,d2,d3⟩:=hf.ent.done h5
        replace a1:=(congrArg (fun l:List Int=>l[m]?) d2).symm.trans a1
        replace a2:=(congrArg (fun l:List Int=>l[m]?) d3).symm.trans a2
        exact ⟨hfx,f.node.toNat,m,o,hn,d1,a1,a2,a3,by rw [hnz];exact a4⟩
    ·replace hthis:=hthis.trans e
     refine ⟨fun k hk ht => ?_,fun d hd => ?_,fun hfx => ?_,fun k hk => ?_⟩
     ·rw [hthis] at ht ⊢
      have ht:qam ((qab c.cases f.id.toNat).told.setIfInBounds f.node.toNat true) k=true:=ht
      rw [qgk hn] at ht
      show _ ∧ ∀ d∈(eat (dur c k).entries f.id.toNat).first,d∈qgx (qab c.cases f.id.toNat).deps f.deps
      by_cases e':f.node.toNat=k
      ·subst e'
       obtain ⟨t1,t2⟩:=hf.ent.told h2
       refine ⟨t1,fun d hd=>mem_union.2 ⟨?_,.inr (by rw [t2];exact hd)⟩⟩
       obtain ⟨j,a1,a2,_⟩:=hnode.heard _ hi t1 d hd
       omega
      ·rw [if_neg e'] at ht
       obtain ⟨t1,t2⟩:=hcp.told k hk ht
       refine ⟨t1,fun d hd=>mem_union.2 ⟨?_,.inl (t2 d hd)⟩⟩
       obtain ⟨j,a1,a2,_⟩:=hcp.heard d (t2 d hd)
       omega
     ·rw [hthis] at hd
      have hd:d∈qgx (qab c.cases f.id.toNat).deps f.deps:=hd
      rcases (mem_union.1 hd).2 with hd | hd
      ·obtain ⟨j,a1,a2,a3,a4⟩:=hcp.heard d hd
       exact ⟨j,a1,a2,a3,by rw [hbegs];exact a4⟩
      ·obtain ⟨j,a1,a2,a3,a4⟩:=hhear d hd h2
       exact ⟨j,a1,a2,a3,by rw [hbegs];exact a4⟩
     ·rw [hthis] at hfx ⊢
      have hfx:qcb (qdo (qab c.cases f.id.toNat) f)=true:=hfx
      rw [← hfx]
      exact qfc rfl rfl
     ·rw [hthis] at hk
      have:=(hcp.done k hk).1
      rw [hnf] at this
      cases this
   ·rw [hbegs] at hb
    exact (h.cas i hi' hb).grow hgr hi' (by rw [hset,if_neg e]))
 refine ⟨hgr,hp.send _ fun g hgm hz => ?_⟩
 have hthis:=hset f.id.toNat
 rw [if_pos rfl] at hthis
 refine qmy (c:={ c with cases:=c.cases.setIfInBounds f.id.toNat (qa1 (qab c.cases f.id.toNat) f.id f).1 }) hi (by rw [hthis];exact hb1) g ?_ hz
 rw [hthis,hiz]
 rcases hcs with ⟨_,e,_⟩ | ⟨_,_,e1,e2⟩
 ·rw [e] at hgm;cases hgm
 ·rw [e2] at hgm
  rw [e1]
  cases he:qcb (qdo (qab c.cases f.id.toNat) f)
  ·rw [he] at hgm;cases hgm
  ·rw [he] at hgm;exact hgm
end Go.Proofs.Yteilffoclpgijaa
namespace Go.Proofs.Yteilffoclpgijaa
open Go.RowKit
open Rep (rep)
theorem PInv.keepG {c d:GCluster} {net:List ByteArray} {b:Nat} (h:PInv c net b) (hinv:CInv d net) (hl:d.logs=c.logs) (hn:d.nodes=c.nodes) (hd:d.down=c.down) (hc:d.cases=c.cases) (hb:d.begun=c.begun):Grow c d∧PInv d net b :=
 h.recase hinv hl hn hd (fun i hi=>by rw [hc,hb];exact h.cnt i hi) (fun i _ hb=>by rw [hc];exact ⟨hb,rfl,fun hf=>⟨hf,rfl⟩⟩) fun hg i hi hb=>(h.cas i hi (by rw [← hc];exact hb)).grow hg hi (by rw [hc])
theorem PInv.fallG {c:GCluster} {net:List ByteArray} {b n:Nat} (h:PInv c net b) (hn:n<6):Grow c (ql5 c n)∧PInv (ql5 c n) net b :=
 h.relog (d:=ql5 c n) (b':=b) hn (h.inv.fall hn) rfl rfl (fun _ _ _=>rfl) (.inl rfl) (h.rep n hn) h.len fun k hk hdn=>by
  have hdn:qab (c.down.setIfInBounds n true) k=false:=hdn
  have hkn:n≠k:=by
   rintro rfl
   rw [qan hn,if_pos rfl] at hdn
   cases hdn
  rw [qan hn,if_neg hkn] at hdn
  obtain ⟨v1,v2⟩:=h.up k hk hdn
  refine ⟨?_,v2⟩
  show qab (c.nodes.setIfInBounds n zeroN) k=_
  rw [qan hn,if_neg hkn]
  exact v1
theorem qva : ∀ (n:Nat) (l:List UInt8),l.length≤n→qaq (l.take (qaq l).2)=qaq l
 | n,[],_=>by rw [qaz (l:=[]) (by simp)];exact qaz (by simp)
 | n,[x],_=>by rw [qaz (l:=[x]) (by simp)];exact qaz (by simp)
 | 0,a::b::r,h=>by simp at h
 | n+1,a::b::r,h=>by
  by_cases hk:1≤qc2 a b∧qc2 a b≤400∧qc2 a b≤r.length
  ·have ih:=qva n (r.drop (qc2 a b)) (by simp at h ⊢;omega)
   obtain ⟨hsm,_⟩:=qh3 _ (r.drop (qc2 a b)) (Nat.le_refl _)
   rw [List.length_drop] at hsm
   have hgo:=qh2 hk
   have e:(a::b::r).take (qaq (a::b::r)).2=a::b::r.take (qc2 a b+(qaq (r.drop (qc2 a b))).2):=by
    rw [hgo,show 2+qc2 a b+(qaq (r.drop (qc2 a b))).2=(qc2 a b+(qaq (r.drop (qc2 a b))).2)+1+1 by omega,List.take_succ_cons,List.take_succ_cons]
   have hk':1≤qc2 a b∧qc2 a b≤400∧qc2 a b≤(r.take (qc2 a b+(qaq (r.drop (qc2 a b))).2)).length:=⟨hk.1,hk.2.1,by rw [List.length_take];omega⟩
   have e1:(r.take (qc2 a b+(qaq (r.drop (qc2 a b))).2)).take (qc2 a b)=r.take (qc2 a b):=by rw [List.take_take,Nat.min_eq_left (by omega)]
   have e2:(r.take (qc2 a b+(qaq (r.drop (qc2 a b))).2)).drop (qc2 a b)=(r.drop (qc2 a b)).take (qaq (r.drop (qc2 a b))).2:=by rw [List.drop_take,Nat.add_sub_cancel_left]
   rw [e,qh2 hk',e1,e2,ih,hgo]
  ·rw [qhb hk]
   exact qaz (by simp)
theorem q21 (log:ByteArray):qaq (log.extract 0 (qaq log.data.toList).2).data.toList=qaq log.data.toList:=by
 have e:(log.extract 0 (qaq log.data.toList).2).data.toList=log.data.toList.take (qaq log.data.toList).2:=by
  rw [Go.Lib.extract_data]
  simp
 rw [e]
 exact qva _ _ (Nat.le_refl _)
theorem qyh {c:GCluster} {n:Nat} (hn:n<6):dur (qh6 c n) n=dur c n:=by
 unfold dur qh6
 dsimp only
 rw [qan hn,if_pos rfl,q21]
theorem PInv.riseG {c:GCluster} {net:List ByteArray} {b n:Nat} (h:PInv c net b) (hn:n<6):Grow c (qh6 c n)∧PInv (qh6 c n) net b:=by
 have hlog:=h.inv.log n hn
 have hdl:(qab c.logs n).data.toList.length=(qab c.logs n).size:=rfl
 obtain ⟨r1,_⟩:=qh3 _ (qab c.logs n).data.toList (Nat.le_refl _)
 have hinv:CInv (qh6 c n) net:=(h.inv.setLog hn (x:=(qab c.logs n).extract 0 (qaq (qab c.logs n).data.toList).2) (by rw [ByteArray.size_extract];omega)).setNode hn (b:=false) (qgs _ qfa) fun e=>by cases e
 have hthis:qab (qh6 c n).logs n=(qab c.logs n).extract 0 (qaq (qab c.logs n).data.toList).2:=by
  show qab (c.logs.setIfInBounds n _) n=_
  rw [qan hn,if_pos rfl]
 have hread:qaq (qs0 (qh6 c n) n)=qaq (qs0 c n):=by
  show qaq (qab (qh6 c n).logs n).data.toList=_
  rw [hthis,q21]
 refine h.relog (d:=qh6 c n) (b':=b) hn hinv rfl rfl (fun k hk hkn => ?_) (.inl (qyh hn)) ?_ (fun k hk => ?_) fun k hk hdn => ?_
 ·show qab (c.logs.setIfInBounds n _) k=_
  rw [qan hn,if_neg (Ne.symm hkn)]
 ·rw [hread];exact h.rep n hn
 ·by_cases e:n=k
  ·subst e
   rw [hthis,ByteArray.size_extract]
   have:=h.len n hn
   omega
  ·show (qab (c.logs.setIfInBounds n _) k).size≤b
   rw [qan hn,if_neg e]
   exact h.len k hk
 ·by_cases e:n=k
  ·subst e
   refine ⟨?_,?_⟩
   ·rw [qyh hn]
    show qab (c.nodes.setIfInBounds n _) n=_
    rw [qan hn,if_pos rfl]
    rfl
   ·rw [hread,hthis,ByteArray.size_extract]
    show (qaq (qab c.logs n).data.toList).2=_
    omega
  ·have hdn:qab (c.down.setIfInBounds n false) k=false:=hdn
   rw [qan hn,if_neg e] at hdn
   obtain ⟨v1,v2⟩:=h.up k hk hdn
   have e1:qab (qh6 c n).logs k=qab c.logs k:=by
    show qab (c.logs.setIfInBounds n _) k=_
    rw [qan hn,if_neg e]
   refine ⟨?_,?_⟩
   ·show qab (c.nodes.setIfInBounds n _) k=(qbc k (qaq (qab (qh6 c n).logs k).data.toList).1 zeroN).1
    rw [qan hn,if_neg e,e1]
    exact v1
   ·show (qaq (qab (qh6 c n).logs k).data.toList).2=(qab (qh6 c n).logs k).size
    rw [e1]
    exact v2
theorem PInv.fall {c:GCluster} {net:List ByteArray} {b n:Nat} (h:PInv c net b) (hn:n<6):PInv (ql5 c n) net b:=(h.fallG hn).2
theorem PInv.rise {c:GCluster} {net:List ByteArray} {b n:Nat} (h:PInv c net b) (hn:n<6):PInv (qh6 c n) net b:=(h.riseG hn).2
theorem PInv.powG {c:GCluster} {net:List ByteArray} {b:Nat} (h:PInv c net b) {a:GAct}:Grow c (qql c net a).2.1∧PInv (qql c net a).2.1 (qql c net a).2.2 b:=by
 have hinv:=h.inv.pow (a:=a)
 unfold qql at hinv ⊢
 cases hp:ql9 a
 ·exact ⟨.refl c,h⟩
 ·rw [hp,cond_true] at hinv
  unfold ql9 at hp
  simp only [Bool.and_eq_true,decide_eq_true_eq] at hp
  obtain ⟨⟨h0,h6⟩,hm⟩:=hp
  have hn:a.n.toNat<6:=by omega
  rw [cond_true]
  cases hd:(!(qab c.down a.n.toNat==(a.kind==8)))
  ·rw [hd,cond_false] at hinv
   rw [cond_false]
   cases h7:(a.kind==7)
   ·rw [cond_false]
    cases (a.kind==6)
    ·exact h.riseG hn
    ·exact h.fallG hn
   ·rw [h7,cond_true] at hinv
    exact h.keepG hinv rfl rfl rfl rfl rfl
  ·exact ⟨.refl c,h⟩
theorem qyi {f:GFrame} (h:qak f=0):(qj7 (byL (qef f).1)).1=f:=by
 obtain ⟨_,e,_⟩:=qw1 h
 rw [e]
theorem PInv.frm2G {c:GCluster} {net:List ByteArray} {b:Nat} (h:PInv c net b) (hb:b≤60000) {kind:Int} {f:GFrame} (hf:NetF c f) :
  (Grow c (frm2 c net kind f (qef f).1).2.1∧PInv (frm2 c net kind f (qef f).1).2.1 (frm2 c net kind f (qef f).1).2.2 (b+102))∧((frm2 c net kind f (qef f).1).1.code=0∨(frm2 c net kind f (qef f).1).1.code=6):=by
 obtain ⟨hkr,hn,hid⟩:=qa6 hf.good
 unfold Go.Proofs.Yteilffoclpgijaa.frm2
 cases (kind==4)
 ·rw [cond_false]
  cases hk:(f.kind==1||f.kind==3)
  ·rw [cond_false]
   simp only [Bool.or_eq_false_iff,beq_eq_false_iff_ne,ne_eq] at hk
   obtain ⟨h0,hg,hp⟩:=h.takeG hf (by omega)
   rw [qad (by simp [h0])]
   exact ⟨⟨hg,hp.mono (by omega)⟩,.inl rfl⟩
  ·rw [cond_true]
   simp only [Bool.or_eq_true,beq_iff_eq] at hk
   obtain ⟨hp,h0⟩:=h.comeG hb (n:=f.node.toNat) (by omega) hf (by omega) hk
   refine ⟨hp,?_⟩
   dsimp only
   rcases h0 with h0 | h0
   ·rw [qad (by simp [h0])];exact .inl rfl
   ·rw [qaj (by simp [h0])];exact .inr h0
 ·exact ⟨⟨.refl c,h.mono (by omega)⟩,.inl rfl⟩
theorem PInv.text {c:GCluster} {net:List ByteArray} {b:Nat} (h:PInv c net b) {x:Int} (hx:0≤x∧x<net.length):NetF c (qey net x)∧qhg net x=(qef (qey net x)).1:=by
 have hlt:x.toNat<net.length:=by omega
 have e:qhg net x=net[x.toNat]:=by
  unfold qhg
  rw [List.getElem?_eq_getElem hlt]
  rfl
 obtain ⟨f,e1,hf⟩:=h.net _ (List.getElem_mem hlt)
 have e2:qey net x=f:=by
  unfold qey
  rw [e,e1,qyi hf.good]
 rw [e2,e,e1]
 exact ⟨hf,rfl⟩
theorem PInv.frmG {c:GCluster} {net:List ByteArray} {b:Nat} (h:PInv c net b) (hb:b≤60000) {a:GAct}:(Grow c (ql7 c net a).2.1∧PInv (ql7 c net a).2.1 (ql7 c net a).2.2 (b+102))∧((ql7 c net a).1.code=0∨(ql7 c net a).1.code=6∨(ql7 c net a).1=ql3 4∧(ql7 c net a).2=(c,net)):=by
 unfold ql7
 by_cases hx:0≤a.n∧a.n<net.length
 ·rw [qaj (qaf hx)]
  obtain ⟨hf,e⟩:=h.text hx
  rw [e]
  have hp:PInv c (bif a.kind==3 then net else net.eraseIdx a.n.toNat) b:=by
   cases (a.kind==3)
   ·exact h.cut (fun s hs=>List.mem_of_mem_eraseIdx hs) (List.length_eraseIdx_le ..)
   ·exact h
  obtain ⟨h1,h2⟩:=hp.frm2G hb (kind:=a.kind) hf
  exact ⟨h1,h2.imp_right .inl⟩
 ·rw [qad (qae hx)]
  exact ⟨⟨.refl c,h.mono (by omega)⟩,.inr (.inr ⟨rfl,rfl⟩)⟩
theorem PInv.frm {c:GCluster} {net:List ByteArray} {b:Nat} (h:PInv c net b) (hb:b≤60000) {a:GAct}:PInv (ql7 c net a).2.1 (ql7 c net a).2.2 (b+102)∧((ql7 c net a).1.code=0∨(ql7 c net a).1.code=6∨(ql7 c net a).1=ql3 4∧(ql7 c net a).2=(c,net)):=⟨(h.frmG hb).1.2,(h.frmG hb).2⟩
theorem PInv.aga {c:GCluster} {net:List ByteArray} {b:Nat} (h:PInv c net b) {a:GAct}:PInv (q2p c net a).2.1 (q2p c net a).2.2 b:=by
 unfold q2p
 by_cases hx:0≤a.n∧a.n<c.begun
 ·have:=h.inv.begun.2
  have hi:a.n.toNat<32:=by omega
  have e:((a.n.toNat:Nat):Int)=a.n:=by omega
  rw [qaj (qaf hx)]
  refine h.send _ fun f hf hz=>qmy hi ?_ f (by rw [e];exact hf) hz
  rw [h.cnt _ hi,decide_eq_true_eq]
  omega
 ·rw [qad (qae hx)]
  exact h
theorem PInv.actsG {c:GCluster} {net:List ByteArray} {b:Nat} (h:PInv c net b) (ha : ¬ c.acts≥400):Grow c { c with acts:=c.acts+1 }∧PInv { c with acts:=c.acts+1 } net b :=
 h.keepG (h.inv.act ha) rfl rfl rfl rfl rfl
theorem PInv.acts {c:GCluster} {net:List ByteArray} {b:Nat} (h:PInv c net b) (ha : ¬ c.acts≥400):PInv { c with acts:=c.acts+1 } net b:=(h.actsG ha).2
theorem qoc {c:GCluster} {net:List ByteArray} {a:GAct}:(q2p c net a).2.1=c:=by
 unfold q2p
 cases decide (0≤a.n∧a.n<c.begun)<;>rfl
theorem PInv.doAG {c:GCluster} {net:List ByteArray} {b:Nat} (h:PInv c net b) (hb:b≤60000) {a:GAct}:Grow c (doA c net a).2.1∧PInv (doA c net a).2.1 (doA c net a).2.2 (b+102):=by
 unfold Go.Proofs.Yteilffoclpgijaa.doA
 cases (a.kind==1)
 ·rw [cond_false]
  cases (a.kind==2||(a.kind==3||a.kind==4))
  ·rw [cond_false]
   cases (a.kind==5)
   ·rw [cond_false]
    cases (a.kind==6||(a.kind==7||a.kind==8))
    ·exact ⟨.refl c,h.mono (by omega)⟩
    ·exact ⟨h.powG.1,h.powG.2.mono (by omega)⟩
   ·refine ⟨?_,h.aga.mono (by omega)⟩
    rw [cond_true,qoc]
    exact .refl c
  ·exact (h.frmG hb).1
 ·exact ⟨h.beginG.1,h.beginG.2.mono (by omega)⟩
theorem Grow.of_acts {c d:GCluster} {k:Int} (h:Grow { c with acts:=k } d):Grow c d:=⟨h.cas,h.durs⟩
theorem PInv.actG {c:GCluster} {net:List ByteArray} {b:Nat} (h:PInv c net b) (hb:b≤60000) {a:GAct}:Grow c (qfq c net a).2.1∧PInv (qfq c net a).2.1 (qfq c net a).2.2 (b+102):=by
 unfold qfq
 by_cases ha:c.acts≥400
 ·rw [qaj (qaf ha)];exact ⟨.refl c,h.mono (by omega)⟩
 ·rw [qad (qae ha)]
  have h2:=(h.actsG ha).2.doAG hb (a:=a)
  exact ⟨h2.1.of_acts,h2.2⟩
theorem PInv.act {c:GCluster} {net:List ByteArray} {b:Nat} (h:PInv c net b) (hb:b≤60000) {a:GAct}:PInv (qfq c net a).2.1 (qfq c net a).2.2 (b+102):=(h.actG hb).2
theorem qod (i:Nat):qab newCl.cases i=noC:=qee i
theorem qsw (i:Nat):qab newCl.logs i=⟨#[]⟩:=qee i
theorem q22 (n:Nat):dur newCl n=zeroN:=by
 unfold dur
 rw [qsw,qaz (by simp)]
 rfl
theorem qyj:PInv newCl [] 0:=by
 refine ⟨q2s,fun i _ => ?_,fun n _ => ?_,fun n _ _=>⟨?_,?_⟩,fun n _ => ?_,fun s hs=>absurd hs List.not_mem_nil,fun n _ => ?_,fun i _ hb => ?_⟩
 ·rw [qod,qae (show ¬ ((i:Int)<newCl.begun) by show ¬ ((i:Int)<0);omega)]
  rfl
 ·show (qbc n (qaq (qab newCl.logs n).data.toList).1 zeroN).2=0
  rw [qsw,qaz (by simp)]
  rfl
 ·rw [q22]
  show qab (Zr.zd:Vector GNode 6) n=_
  rw [qee]
  rfl
 ·show (qaq (qab newCl.logs n).data.toList).2=(qab newCl.logs n).size
  rw [qsw,qaz (by simp)]
  rfl
 ·rw [qsw]
  exact Nat.le_refl _
 ·rw [q22]
  exact qz1 _ _
 ·rw [qod] at hb
  cases hb
theorem qyk : ∀ (l:List GAct) {c:GCluster} {net:List ByteArray} {b:Nat},PInv c net b→b+102*l.length≤60000→PInv (goZ c net l).2.1 (goZ c net l).2.2 (b+102*l.length)
 | [],_,_,_,h,_=>h
 | a::t,_,_,b,h,hb=>by
  simp only [List.length_cons] at hb ⊢
  exact (qyk t (h.act (by omega) (a:=a)) (by omega)).mono (by omega)
end Go.Proofs.Yteilffoclpgijaa
namespace Go.Proofs.Yteilffoclpgijaa
open Go.RowKit
open Rep (rep)
def qme (x:Int) (l:List GOp) (v:Int):Int:=l.foldl (fun v o=>if o.key=x then doZ v o else v) v
theorem qez {x:Int} {o:GOp} {l:List GOp} {v:Int}:qme x (o::l) v=qme x l (if o.key=x then doZ v o else v):=rfl
theorem qvb {sh x:Int} (h0:0≤x) (h8:x<8) (hs:qas x=sh) : ∀ (l:List GOp) (i:Nat) (v:Vector Int 8) (a b:List Int),KeyOk l→vat (qdf sh i l v a b).1 x.toNat=qme x l (vat v x.toNat)
 | [],_,_,_,_,_=>rfl
 | o::t,i,v,a,b,hk=>by
  have ho:=hk o List.mem_cons_self
  have ih:=fun v a b=>qvb h0 h8 hs t (i+1) v a b fun x hx=>hk x (List.mem_cons_of_mem _ hx)
  rw [qdf,qez]
  cases h:(qas o.key==sh)
  ·rw [cond_false,ih,if_neg]
   intro e
   rw [e,hs] at h
   simp at h
  ·rw [cond_true,ih,qso (by omega)]
   by_cases e:o.key=x
   ·rw [if_pos (by rw [e]),if_pos e,e]
   ·rw [if_neg (by omega),if_neg e]
theorem qmz {sh:Int} : ∀ (l:List GOp) (i:Nat) (v:Vector Int 8) (a b:List Int),KeyOk l → ∃ L R,(qdf sh i l v a b).2.1=a++L∧(qdf sh i l v a b).2.2=b++R ∧
  ∀ (m:Nat) (j:Int),L[m]? = some j → ∃ (p:Nat) (o:GOp),j=((i+p:Nat):Int)∧l[p]? = some o∧qas o.key=sh∧R[m]? = some (qme o.key (l.take (p+1)) (vat v o.key.toNat))
 | [],_,_,a,b,_=>⟨[],[],(List.append_nil a).symm,(List.append_nil b).symm,fun m j h=>by simp at h⟩
 | o::t,i,v,a,b,hk=>by
  have ho:=hk o List.mem_cons_self
  rw [qdf]
  cases h:(qas o.key==sh)
  ·obtain ⟨L,R,e1,e2,e3⟩:=qmz (sh:=sh) t (i+1) v a b fun x hx=>hk x (List.mem_cons_of_mem _ hx)
   rw [cond_false]
   refine ⟨L,R,e1,e2,fun m j hj => ?_⟩
   obtain ⟨p,u,a1,a2,a3,a4⟩:=e3 m j hj
   refine ⟨p+1,u,by rw [a1];omega,by rw [List.getElem?_cons_succ];exact a2,a3,?_⟩
   rw [a4,List.take_succ_cons,qez,if_neg]
   intro e
   rw [e,a3] at h
   simp at h
  ·have hs:qas o.key=sh:=by simpa using h
   obtain ⟨L,R,e1,e2,e3⟩:=qmz (sh:=sh) t (i+1) (v.setIfInBounds o.key.toNat (doZ (vat v o.key.toNat) o)) (a++[(i:Int)]) (b++[doZ (vat v o.key.toNat) o]) fun x hx=>hk x (List.mem_cons_of_mem _ hx)
   rw [cond_true]
   refine ⟨(i:Int)::L,doZ (vat v o.key.toNat) o::R,by rw [e1];simp,by rw [e2];simp,fun m j hj => ?_⟩
   cases m with
   | zero =>
    rw [List.getElem?_cons_zero] at hj
    refine ⟨0,o,by rw [← Option.some.inj hj];omega,rfl,hs,?_⟩
    rw [List.getElem?_cons_zero,List.take_succ_cons,qez,if_pos rfl]
    rfl
   | succ m =>
    rw [List.getElem?_cons_succ] at hj
    obtain ⟨p,u,a1,a2,a3,a4⟩:=e3 m j hj
    have hu:=hk u (List.mem_cons_of_mem _ (List.mem_of_getElem? a2))
    refine ⟨p+1,u,by rw [a1];omega,by rw [List.getElem?_cons_succ];exact a2,a3,?_⟩
    rw [List.getElem?_cons_succ,a4,List.take_succ_cons,qez,qso (by omega)]
    by_cases e:o.key=u.key
    ·rw [if_pos (by rw [e]),if_pos e,e]
    ·rw [if_neg (by omega),if_neg e]
def qvn (sh:Int) (E:Vector GEntry 32):List Int→Vector Int 8→Vector Int 8
 | [],v=>v
 | n::t,v=>qvn sh E t (qdf sh 0 (eat E n.toNat).ops v [] []).1
theorem qvc {sh:Int} {E:Vector GEntry 32} {n:Int} : ∀ (l:List Int) (v:Vector Int 8),qvn sh E (l++[n]) v=(qdf sh 0 (eat E n.toNat).ops (qvn sh E l v) [] []).1
 | [],_=>rfl
 | _::t,_=>qvc t _
theorem qhi {sh:Int} {E E':Vector GEntry 32} : ∀ (l:List Int) (v:Vector Int 8),(∀ n∈l,(eat E' n.toNat).ops=(eat E n.toNat).ops)→qvn sh E' l v=qvn sh E l v
 | [],_,_=>rfl
 | n::t,v,h=>by
  rw [qvn,qvn,h n List.mem_cons_self]
  exact qhi t _ fun x hx=>h x (List.mem_cons_of_mem _ hx)
structure Vals (sh:Int) (s:GNode):Prop where
 now:s.values=qvn sh s.entries s.order Zr.zd
 told : ∀ A n B,s.order=A++n::B→((eat s.entries n.toNat).at_,(eat s.entries n.toNat).values)=(qdf sh 0 (eat s.entries n.toNat).ops (qvn sh s.entries A Zr.zd) [] []).2
theorem Vals.of {sh:Int} {s t:GNode} (h:Vals sh s) (ho:t.order=s.order) (hv:t.values=s.values) (he : ∀ n∈s.order,eat t.entries n.toNat=eat s.entries n.toNat):Vals sh t:=by
 refine ⟨?_,fun A n B hs => ?_⟩
 ·rw [hv,ho,h.now]
  exact (qhi _ _ fun n hn=>by rw [he n hn]).symm
 ·rw [ho] at hs
  have hin : ∀ x∈A,x∈s.order:=fun x hx=>by rw [hs];exact List.mem_append_left _ hx
  have hn:n∈s.order:=by rw [hs];exact List.mem_append_right _ List.mem_cons_self
  rw [he n hn,qhi (E:=s.entries) A _ fun x hx=>by rw [he x (hin x hx)]]
  exact h.told A n B hs
theorem Vals.zero (sh:Int):Vals sh zeroN:=⟨rfl,fun A n B h=>by
 have h:([]:List Int)=A++n::B:=h
 simp at h⟩
theorem Vals.one {sh:Int} {s:GNode} (h:Vals sh s) (hg:GoodN s) {n:Nat} (hn:n<32) (h2:(eat s.entries n).state=2):Vals sh (q0b s n sh):=by
 have hnot:((n:Nat):Int)∉s.order:=fun hin=>by
  have:=(hg.done hn).2 hin
  omega
 have hne : ∀ m∈s.order,n≠m.toNat:=fun m hm e=>by
  have:=(hg.inr m hm).1
  exact hnot (by rw [e,Int.toNat_of_nonneg this];exact hm)
 have hat : ∀ k,eat (q0b s n sh).entries k=if n=k then qgn (eat s.entries n) (qdf sh 0 (eat s.entries n).ops s.values [] []).2.1 (qdf sh 0 (eat s.entries n).ops s.values [] []).2.2 else eat s.entries k:=fun k=>qbd hn
 have hkeep : ∀ m∈s.order,eat (q0b s n sh).entries m.toNat=eat s.entries m.toNat:=fun m hm=>by rw [hat,if_neg (hne m hm)]
 have hself:eat (q0b s n sh).entries ((n:Nat):Int).toNat=qgn (eat s.entries n) (qdf sh 0 (eat s.entries n).ops s.values [] []).2.1 (qdf sh 0 (eat s.entries n).ops s.values [] []).2.2:=by
  rw [hat,Int.toNat_natCast,if_pos rfl]
 have hrun:qvn sh (q0b s n sh).entries s.order Zr.zd=s.values:=by
  rw [h.now]
  exact qhi _ _ fun m hm=>by rw [hkeep m hm]
 have hord:(q0b s n sh).order=s.order++[(n:Int)]:=rfl
 refine ⟨?_,fun A m B hs => ?_⟩
 ·rw [hord,qvc,hself,hrun]
  rfl
 ·rw [hord] at hs
  rcases List.eq_nil_or_concat B with rfl | ⟨B',x,rfl⟩
  ·obtain ⟨e1,e2⟩:=List.append_inj' hs rfl
   have e2:((n:Nat):Int)=m:=(List.cons.inj e2).1
   rw [← e1,← e2,hself,hrun]
   rfl
  ·have hs:s.order++[(n:Int)]=(A++m::B')++[x]:=by rw [hs];simp
   obtain ⟨e1,_⟩:=List.append_inj' hs rfl
   have hin : ∀ x∈A,x∈s.order:=fun x hx=>by rw [e1];exact List.mem_append_left _ hx
   have hm:m∈s.order:=by rw [e1];exact List.mem_append_right _ List.mem_cons_self
   rw [hkeep m hm,qhi (E:=s.entries) A _ fun x hx=>by rw [hkeep x (hin x hx)]]
   exact h.told A m B' e1
theorem Vals.step {sh:Int} {s:GNode} (h:Vals sh s) (hg:GoodN s) {m:Nat} (hm:m<32):Vals sh (qkz sh s m):=by
 unfold qkz
 cases h2:((eat s.entries m).state==2)
 ·exact h
 ·exact h.one hg hm (by simpa using h2)
theorem Vals.run (sh:Int) : ∀ (l:List Nat) {s:GNode},Vals sh s→GoodN s→(∀ m∈l,m<32)→Vals sh (q0c sh s l)
 | [],_,h,_,_=>h
 | m::t,_,h,hg,hl=>Vals.run sh t (h.step hg (hl m List.mem_cons_self)) (hg.step (hl m List.mem_cons_self) sh) fun x hx=>hl x (List.mem_cons_of_mem _ hx)
theorem Vals.turn {sh:Int} {s:GNode} (h:Vals sh s) (hg:GoodN s) {n:Nat} (hn:n<32) (g:GGraph):Vals sh (qil g sh s n):=by
 unfold qil
 cases ((eat s.entries n).state==2)
 ·exact h
 ·exact Vals.run sh _ h hg (qp0 hn)
theorem Vals.turns (g:GGraph) (sh:Int) : ∀ (l:List Nat) {s:GNode},Vals sh s→GoodN s→(∀ m∈l,m<32)→Vals sh (l.foldl (qil g sh) s)
 | [],_,h,_,_=>h
 | m::t,_,h,hg,hl=>Vals.turns g sh t (h.turn hg (hl m List.mem_cons_self) g) (hg.turn (hl m List.mem_cons_self) g sh) fun x hx=>hl x (List.mem_cons_of_mem _ hx)
theorem Vals.exec {sh:Int} {s:GNode} (h:Vals sh s) (hg:GoodN s):Vals sh (qqh s sh):=Vals.turns _ sh _ h hg fun m hm=>List.mem_range.1 hm
theorem Vals.take {s:GNode} {who:Int} (h:Vals (ofZ who) s) {f:GFrame}:Vals (ofZ who) (qa0 s who f).1:=by
 by_cases h0:(qa0 s who f).2.2=0
 ·obtain ⟨hs,hw,hn,hz,hk⟩:=qjz h0
  obtain ⟨_,_,hf⟩:=qa6 hz
  have hid:f.id.toNat<32:=by omega
  have hin : ∀ m∈s.order,(eat s.entries f.id.toNat).state≠3→f.id.toNat≠m.toNat:=fun m hm h3 e=>by
   have:=hs.inr m hm
   exact h3 ((hs.done hid).2 (by rw [e,Int.toNat_of_nonneg this.1];exact hm))
  rw [qgr hs hw hn hz]
  rcases hk with ⟨h1,ht⟩ | h3
  ·rw [qfb h1 ht]
   show Vals (ofZ who) (qrj s f (ofZ who))
   unfold qrj
   cases hst:((eat s.entries f.id.toNat).state==0)
   ·exact h
   ·have hst:(eat s.entries f.id.toNat).state=0:=by simpa using hst
    refine h.of rfl rfl fun m hm => ?_
    show eat (s.entries.setIfInBounds _ _) m.toNat=_
    rw [qbd hid,if_neg (hin m hm (by omega))]
  ·rw [qco h3]
   show Vals (ofZ who) (qaw s f (ofZ who))
   unfold qaw
   by_cases h2:(eat s.entries f.id.toNat).state<2
   ·rw [qaj (qaf h2)]
    refine Vals.exec (h.of rfl rfl fun m hm => ?_) (hs.comm hz h3 h2 _)
    show eat (s.entries.setIfInBounds _ _) m.toNat=_
    rw [qbd hid,if_neg (hin m hm (by omega))]
   ·rw [qad (qae h2)];exact h
 ·rw [(ql1 h0).1];exact h
theorem qnm {who:Int} : ∀ (l:List ByteArray) {s:GNode},Vals (ofZ who) s→Vals (ofZ who) (qbc who l s).1
 | [],_,h=>h
 | x::t,s,h=>by
  unfold qbc
  cases ((qj7 (byL x)).2 != 0)
  ·rw [cond_false]
   cases ((qa0 s who (qj7 (byL x)).1).2.2 != 0)
   ·exact qnm t h.take
   ·exact Vals.zero _
  ·exact Vals.zero _
theorem qoe (c:GCluster) (n:Nat):Vals (ofZ n) (dur c n):=qnm _ (Vals.zero _)
def q0d (x:Int) (f:Int→List GOp):List Int→Int→Int
 | [],v=>v
 | n::t,v=>q0d x f t (qme x (f n) v)
theorem qof {sh x:Int} (h0:0≤x) (h8:x<8) (hs:qas x=sh) {E:Vector GEntry 32} : ∀ (l:List Int) (v:Vector Int 8),(∀ n∈l,KeyOk (eat E n.toNat).ops)→vat (qvn sh E l v) x.toNat=q0d x (fun n=>(eat E n.toNat).ops) l (vat v x.toNat)
 | [],_,_=>rfl
 | n::t,v,h=>by
  rw [qvn,qof h0 h8 hs t _ fun m hm=>h m (List.mem_cons_of_mem _ hm),qvb h0 h8 hs _ _ _ _ _ (h n List.mem_cons_self)]
  rfl
theorem qyl (k:Nat):vat (Zr.zd:Vector Int 8) k=0:=by
 show vat (Vector.replicate 8 0) k=0
 unfold vat
 by_cases hk:k<8<;>simp [hk]
theorem Vals.key {sh:Int} {s:GNode} (h:Vals sh s) (hg:GoodN s) {A B:List Int} {n:Nat} (hn:n<32) (ho:s.order=A++(n:Int)::B) {m i:Nat} {v:Int} (hm:(eat s.entries n).at_[m]? = some ((i:Nat):Int)) (hv:(eat s.entries n).values[m]? = some v) :
  ∃ o,(eat s.entries n).ops[i]? = some o∧qas o.key=sh∧v=qme o.key ((eat s.entries n).ops.take (i+1)) (q0d o.key (fun k=>(eat s.entries k.toNat).ops) A 0):=by
 have hkey : ∀ k∈s.order,KeyOk (eat s.entries k.toNat).ops:=fun k hk=>by
  have hr:=hg.inr k hk
  have h3:=(hg.done (k:=k.toNat) (by omega)).2 (by rw [Int.toNat_of_nonneg hr.1];exact hk)
  exact KeyOk.of (hg.body (by omega) (by omega)).ops
 have hin:(n:Int)∈s.order:=by rw [ho];exact List.mem_append_right _ List.mem_cons_self
 have ht:=h.told A n B ho
 have hkn:=hkey _ hin
 rw [Int.toNat_natCast] at ht hkn
 obtain ⟨L,R,e1,e2,e3⟩:=qmz (sh:=sh) (eat s.entries n).ops 0 (qvn sh s.entries A Zr.zd) [] [] hkn
 have h1:(eat s.entries n).at_=L:=(congrArg Prod.fst ht).trans e1
 have h2:(eat s.entries n).values=R:=(congrArg Prod.snd ht).trans e2
 rw [h1] at hm
 rw [h2] at hv
 obtain ⟨p,o,a1,a2,a3,a4⟩:=e3 m _ hm
 have hp:p=i:=by omega
 rw [hp] at a2 a4
 have hko:=hkn o (List.mem_of_getElem? a2)
 refine ⟨o,a2,a3,?_⟩
 rw [a4] at hv
 rw [← Option.some.inj hv,qof hko.1 hko.2 a3 A _ (fun k hk=>hkey k (by rw [ho];exact List.mem_append_left _ hk)),qyl]
end Go.Proofs.Yteilffoclpgijaa
namespace Go.Proofs.Yteilffoclpgijaa
open Go.RowKit
open Rep (rep)
theorem q9c (l:List GAct):PInv (goZ newCl [] (l.take 150)).2.1 (goZ newCl [] (l.take 150)).2.2 15300:=by
 have hlen:(l.take 150).length≤150:=by rw [List.length_take];omega
 exact (qyk (l.take 150) qyj (by omega)).mono (by omega)
theorem q4x {v w:Vector Bool 6} {k:Nat} (h1:2≤qob v k) (h2:2≤qob w k) : ∃ j,j<3∧qam v (k+j)=true∧qam w (k+j)=true:=by
 unfold qob at h1 h2
 have e0:qam v k=qam v (k+0):=rfl
 have e1:qam w k=qam w (k+0):=rfl
 rw [e0] at h1
 rw [e1] at h2
 by_cases a0:qam v (k+0)=true∧qam w (k+0)=true
 ·exact ⟨0,by omega,a0⟩
 by_cases a1:qam v (k+1)=true∧qam w (k+1)=true
 ·exact ⟨1,by omega,a1⟩
 by_cases a2:qam v (k+2)=true∧qam w (k+2)=true
 ·exact ⟨2,by omega,a2⟩
 exfalso
 revert h1 h2 a0 a1 a2
 cases qam v (k+0)<;>cases qam v (k+1)<;>cases qam v (k+2)<;>cases qam w (k+0)<;>cases qam w (k+1)<;>cases qam w (k+2)<;>decide
theorem PInv.meet {c:GCluster} {net:List ByteArray} {b:Nat} (h:PInv c net b) {i j:Nat} (hi:i<32) (hj:j<32) (hij:i≠j) (hbi:(qab c.cases i).begun=true) (hbj:(qab c.cases j).begun=true) (hfi:(qab c.cases i).fixed=true) (hfj:(qab c.cases j).fixed=true) {s:Nat} (hs:s<2)
  (hc:qa3 (qab c.cases i).ops (qab c.cases j).ops (s:Int)=true) : ∃ k:Nat,k<6∧ofZ k=(s:Int)∧qam (qab c.cases i).told k=true∧qam (qab c.cases j).told k=true∧(((j:Nat):Int)∈(eat (dur c k).entries i).first∨((i:Nat):Int)∈(eat (dur c k).entries j).first):=by
 have hpi:=h.cas i hi hbi
 have hpj:=h.cas j hj hbj
 obtain ⟨t1,t2⟩:=qnr _ _ _ hc
 have e1:=hpi.fix hfi
 have e2:=hpj.fix hfj
 unfold qcb at e1 e2
 have hcnt:2≤qob (qab c.cases i).told (3*s)∧2≤qob (qab c.cases j).told (3*s):=by
  have:s=0∨s=1:=by omega
  rcases this with rfl | rfl
  ·have t1:qac (qab c.cases i).ops 0=true:=t1
   have t2:qac (qab c.cases j).ops 0=true:=t2
   rw [t1] at e1
   rw [t2] at e2
   simp only [Bool.not_true,Bool.false_or,Bool.and_eq_true,decide_eq_true_eq] at e1 e2
   exact ⟨e1.1,e2.1⟩
  ·have t1:qac (qab c.cases i).ops 1=true:=t1
   have t2:qac (qab c.cases j).ops 1=true:=t2
   rw [t1] at e1
   rw [t2] at e2
   simp only [Bool.not_true,Bool.false_or,Bool.and_eq_true,decide_eq_true_eq] at e1 e2
   exact ⟨e1.2,e2.2⟩
 obtain ⟨d,hd,k1,k2⟩:=q4x hcnt.1 hcnt.2
 have hk6:3*s+d<6:=by omega
 have hof:ofZ ((3*s+d:Nat):Int)=(s:Int):=by
  unfold ofZ
  split<;>omega
 obtain ⟨u1,_⟩:=hpi.told _ hk6 k1
 obtain ⟨u2,_⟩:=hpj.told _ hk6 k2
 have hn:=h.node _ hk6
 refine ⟨3*s+d,hk6,hof,k1,k2,hn.way i j hi hj hij u1 u2 ?_⟩
 rw [hof,(hn.beg i hi u1).2,(hn.beg j hj u2).2]
 exact hc
theorem qk2 {c:GCase} (h:qc3 c=true) (hf:c.fixed=true):c.begun=true:=by
 unfold qc3 at h
 cases hb:c.begun
 ·rw [hb,cond_false,hf] at h
  cases h
 ·rfl
theorem PInv.ahead {c:GCluster} {net:List ByteArray} {b:Nat} (h:PInv c net b) {i j:Nat} (hi:i<32) (hj:j<32) (hij:i≠j) (hfi:(qab c.cases i).fixed=true) (hfj:(qab c.cases j).fixed=true) (hc:(qa3 (qab c.cases i).ops (qab c.cases j).ops 0||qa3 (qab c.cases i).ops (qab c.cases j).ops 1)=true) :
  ((j:Nat):Int)∈(qab c.cases i).deps∨((i:Nat):Int)∈(qab c.cases j).deps:=by
 have hbi:=qk2 (h.inv.cas i hi) hfi
 have hbj:=qk2 (h.inv.cas j hj) hfj
 have : ∃ s:Nat,s<2∧qa3 (qab c.cases i).ops (qab c.cases j).ops (s:Int)=true:=by
  rw [Bool.or_eq_true] at hc
  rcases hc with hc | hc
  ·exact ⟨0,by omega,hc⟩
  ·exact ⟨1,by omega,hc⟩
 obtain ⟨s,hs,hc⟩:=this
 obtain ⟨k,hk,_,k1,k2,hm⟩:=h.meet hi hj hij hbi hbj hfi hfj hs hc
 rcases hm with hm | hm
 ·exact .inl (((h.cas i hi hbi).told k hk k1).2 _ hm)
 ·exact .inr (((h.cas j hj hbj).told k hk k2).2 _ hm)
theorem q23 {c:GCluster} {net:List ByteArray} (ha:c.acts<400) {k:Nat} (hk:k<6) (hd:qab c.down k=false):qfq c net { kind:=6,n:=k,m:=0,ops:=[] }=(ql3 0,ql5 { c with acts:=c.acts+1 } k,net):=by
 unfold qfq
 rw [qad (qae (by omega))]
 show qql { c with acts:=c.acts+1 } net { kind:=6,n:=k,m:=0,ops:=[] }=_
 unfold qql ql9
 rw [qaj (by rw [qaf (show (0:Int)≤k∧(k:Int)<6 by omega)];rfl)]
 rw [Int.toNat_natCast,hd]
 rfl
theorem q4y {c:GCluster} {net:List ByteArray} (ha:c.acts<400) {k:Nat} (hk:k<6) (hd:qab c.down k=true):qfq c net { kind:=8,n:=k,m:=0,ops:=[] }=(ql3 0,qh6 { c with acts:=c.acts+1 } k,net):=by
 unfold qfq
 rw [qad (qae (by omega))]
 show qql { c with acts:=c.acts+1 } net { kind:=8,n:=k,m:=0,ops:=[] }=_
 unfold qql ql9
 rw [qaj (by rw [qaf (show (0:Int)≤k∧(k:Int)<6 by omega)];rfl)]
 rw [Int.toNat_natCast,hd]
 rfl
end Go.Proofs.Yteilffoclpgijaa
namespace Go.Proofs.Yteilffoclpgijaa
open Go.RowKit
open Rep (rep)
def qsx (c:GCluster):GGraph:={ known:=Vector.ofFn fun k:Fin 32=>(qab c.cases k.val).fixed,deps:=Vector.ofFn fun k:Fin 32=>(qab c.cases k.val).deps }
theorem qp3 {c:GCluster} {k:Nat} (hk:k<32):bat (qsx c).known k=(qab c.cases k).fixed:=by simp [qsx,bat,hk]
theorem qji {c:GCluster} {k:Nat} (hk:k<32):qa8 (qsx c) k=(qab c.cases k).deps:=by simp [qa8,qsx,hk]
structure Ord (P:Nat→Nat→Bool) (l:List Int):Prop where
 nodup:l.Nodup
 inr : ∀ m∈l,0≤m∧m<32
 clo : ∀ n:Nat,(n:Int)∈l → ∀ d,P n d=true→(d:Int)∈l
 pw:l.Pairwise (fun a b=>Rb P a.toNat b.toNat)
theorem Rb.two {P:Nat→Nat→Bool} {a b:Nat} (h:Rb P a b) (h':Rb P b a) (hc:P a b=true∨P b a=true):False:=by
 rcases hc with hc | hc
 ·obtain ⟨h1,h2⟩:=h hc
  have:=(h' h1).2
  omega
 ·obtain ⟨h1,h2⟩:=h' hc
  have:=(h h1).2
  omega
theorem q24 {R:Int→Int→Prop} : ∀ (l l':List Int),l.Nodup→l'.Nodup→(∀ x,x∈l↔x∈l')→l.Pairwise R→l'.Pairwise R→(∀ a b,a∈l→b∈l→a≠b→R a b→R b a→False)→l=l'
 | [],l',_,_,hm,_,_,_=>by
  cases l' with
  | nil=>rfl
  | cons b t=>exact absurd ((hm b).2 List.mem_cons_self) List.not_mem_nil
 | a::t,[],_,_,hm,_,_,_=>absurd ((hm a).1 List.mem_cons_self) List.not_mem_nil
 | a::t,b::t',hn,hn',hm,hp,hp',hc=>by
  obtain ⟨n1,n2⟩:=List.nodup_cons.1 hn
  obtain ⟨n3,n4⟩:=List.nodup_cons.1 hn'
  obtain ⟨p1,p2⟩:=List.pairwise_cons.1 hp
  obtain ⟨p3,p4⟩:=List.pairwise_cons.1 hp'
  have e:a=b:=by
   apply Classical.byContradiction
   intro hne
   have h1:b∈t:=by
    rcases List.mem_cons.1 ((hm b).2 List.mem_cons_self) with h | h
    ·exact absurd h.symm hne
    ·exact h
   have h2:a∈t':=by
    rcases List.mem_cons.1 ((hm a).1 List.mem_cons_self) with h | h
    ·exact absurd h hne
    ·exact h
   exact hc a b List.mem_cons_self (List.mem_cons_of_mem _ h1) hne (p1 b h1) (p3 a h2)
  subst e
  rw [q24 t t' n2 n4 (fun x=>⟨fun hx => ?_,fun hx => ?_⟩) p2 p4 fun x y hx hy=>hc x y (List.mem_cons_of_mem _ hx) (List.mem_cons_of_mem _ hy)]
  ·rcases List.mem_cons.1 ((hm x).1 (List.mem_cons_of_mem _ hx)) with h | h
   ·subst h;exact absurd hx n1
   ·exact h
  ·rcases List.mem_cons.1 ((hm x).2 (List.mem_cons_of_mem _ hx)) with h | h
   ·subst h;exact absurd hx n3
   ·exact h
theorem Ord.split {P:Nat→Nat→Bool} {l A B:List Int} {i:Int} (h:Ord P l) (hl:l=A++i::B):(∀ m∈A,Rb P m.toNat i.toNat)∧(∀ m∈B,Rb P i.toNat m.toNat)∧i∉A∧i∉B∧A.Nodup∧A.Pairwise (fun a b=>Rb P a.toNat b.toNat):=by
 have hp:=h.pw
 have hn:=h.nodup
 rw [hl] at hp hn
 obtain ⟨p1,p2,p3⟩:=List.pairwise_append.1 hp
 obtain ⟨n1,n2,n3⟩:=List.nodup_append.1 hn
 refine ⟨fun m hm=>p3 m hm i List.mem_cons_self,(List.pairwise_cons.1 p2).1,fun hi => ?_,(List.nodup_cons.1 n2).1,n1,p1⟩
 exact n3 i hi i List.mem_cons_self rfl
theorem Ord.same {P:Nat→Nat→Bool} {l l' A B A' B':List Int} {i:Int} (h:Ord P l) (h':Ord P l') (hl:l=A++i::B) (hl':l'=A'++i::B') {m:Int} (hm:m∈A) (hc:P i.toNat m.toNat=true∨P m.toNat i.toNat=true):m∈A':=by
 obtain ⟨s1,_,s3,_⟩:=h.split hl
 obtain ⟨_,t2,_⟩:=h'.split hl'
 have hr:=s1 m hm
 have him:P i.toNat m.toNat=true:=by
  rcases hc with hc | hc
  ·exact hc
  ·exact (hr hc).1
 have hi:i∈l':=by rw [hl'];exact List.mem_append_right _ List.mem_cons_self
 have hm0:=h.inr m (by rw [hl];exact List.mem_append_left _ hm)
 have hi0:=h'.inr i hi
 have hin:m∈l':=by
  have:=h'.clo i.toNat (by rw [Int.toNat_of_nonneg hi0.1];exact hi) m.toNat him
  rwa [Int.toNat_of_nonneg hm0.1] at this
 rw [hl'] at hin
 rcases List.mem_append.1 hin with hin | hin
 ·exact hin
 ·rcases List.mem_cons.1 hin with e | hin
  ·subst e;exact absurd hm s3
  ·exact (hr.two (t2 m hin) hc.symm).elim
theorem qp4 {c:GCluster} {k:Nat} {s:GNode} (hg:GoodN s) (hp:NodeP c k s) {n d:Nat} (hn:(n:Int)∈s.order):qa2 (qsx c) n d=qa2 (qbk s) n d:=by
 have hS : ∀ a b,((a:Nat):Int)∈s.order→Edge (qbk s) a b→((b:Nat):Int)∈s.order:=fun a b ha e=>hp.sorted.clo a ha b (pathB_iff.2 (.one e))
 have hE : ∀ a b,((a:Nat):Int)∈s.order→(Edge (qbk s) a b↔Edge (qsx c) a b):=fun a b ha=>by
  have h32:a<32:=by have:=hg.inr a ha;omega
  have h3:=(hg.done h32).2 ha
  obtain ⟨f1,f2⟩:=hp.fix a h32 (by omega)
  unfold Edge
  rw [qde h32,qp3 h32,qce h32,qji h32,f1,f2,qaf (by omega)]
 rw [Bool.eq_iff_iff,pathB_iff,pathB_iff]
 exact (q2w (S:=fun k=>((k:Nat):Int)∈s.order) hS hE hn).symm
theorem NodeP.ord {c:GCluster} {k:Nat} {s:GNode} (hg:GoodN s) (hp:NodeP c k s):Ord (qa2 (qsx c)) s.order:=by
 refine ⟨hg.nodup,hg.inr,fun n hn d hd => ?_,?_⟩
 ·rw [qp4 hg hp hn] at hd
  exact hp.sorted.clo n hn d hd
 ·refine hp.sorted.ord.imp_of_mem fun {a b} ha hb hab => ?_
  have ha0:=(hg.inr a ha).1
  have hb0:=(hg.inr b hb).1
  unfold Rb at *
  rw [qp4 hg hp (by rw [Int.toNat_of_nonneg ha0];exact ha),qp4 hg hp (by rw [Int.toNat_of_nonneg hb0];exact hb)]
  exact hab
theorem NodeP.order_fix {c:GCluster} {k:Nat} {s:GNode} (hg:GoodN s) (hp:NodeP c k s) {n:Nat} (hn:(n:Int)∈s.order):n<32∧(qab c.cases n).fixed=true∧(qab c.cases n).begun=true∧(eat s.entries n).ops=(qab c.cases n).ops:=by
 have h32:n<32:=by have:=hg.inr n hn;omega
 have h3:=(hg.done h32).2 hn
 obtain ⟨b1,b2⟩:=hp.beg n h32 (by omega)
 exact ⟨h32,(hp.fix n h32 (by omega)).1,b1,b2⟩
def opsC (c:GCluster) (n:Int):List GOp:=(qab c.cases n.toNat).ops
def Wr (x:Int) (l:List GOp):Bool:=l.any fun o=>o.key==x&&o.kind != 1
theorem qym (x:Int):qas x=0∨qas x=1:=by
 unfold qas
 split
 ·exact .inl rfl
 ·exact .inr rfl
theorem PInv.cmp {c:GCluster} {net:List ByteArray} {b:Nat} (h:PInv c net b) {i j:Nat} (hi:i<32) (hj:j<32) (hij:i≠j) (hfi:(qab c.cases i).fixed=true) (hfj:(qab c.cases j).fixed=true) {x:Int} {o:GOp} (ho:o∈(qab c.cases i).ops) (hx:o.key=x) (hw:Wr x (qab c.cases j).ops=true) :
  qa2 (qsx c) i j=true∨qa2 (qsx c) j i=true:=by
 have hc:qa3 (qab c.cases i).ops (qab c.cases j).ops (qas x)=true:=by
  obtain ⟨u,hu,hk⟩:=List.any_eq_true.1 hw
  simp only [Bool.and_eq_true,beq_iff_eq,bne_iff_ne,ne_eq] at hk
  refine List.any_eq_true.2 ⟨o,ho,List.any_eq_true.2 ⟨u,hu,?_⟩⟩
  unfold qnz
  simp only [Bool.and_eq_true,beq_iff_eq,bne_iff_ne,ne_eq,Bool.or_eq_true]
  exact ⟨by rw [hx,hk.1],by rw [hx],.inr hk.2⟩
 have hc:(qa3 (qab c.cases i).ops (qab c.cases j).ops 0||qa3 (qab c.cases i).ops (qab c.cases j).ops 1)=true:=by
  rw [Bool.or_eq_true]
  rcases qym x with e | e
  ·rw [e] at hc;exact .inl hc
  ·rw [e] at hc;exact .inr hc
 rcases h.ahead hi hj hij hfi hfj hc with hd | hd
 ·exact .inl (pathB_iff.2 (.one ⟨hi,by rw [qp3 hi];exact hfi,by rw [qji hi];exact hd,hj⟩))
 ·exact .inr (pathB_iff.2 (.one ⟨hj,by rw [qp3 hj];exact hfj,by rw [qji hj];exact hd,hi⟩))
theorem qp5 (v:Int):qd1 (qd1 v)=qd1 v:=by
 unfold qd1
 repeat' split
 all_goals omega
theorem qvd (v:Int) (o:GOp):qd1 (doZ v o)=doZ v o:=by
 unfold doZ
 split
 ·exact qp5 _
 ·split<;>exact qp5 _
theorem qnn {x:Int} : ∀ (l:List GOp) (v:Int),qd1 v=v→qd1 (qme x l v)=qme x l v
 | [],_,h=>h
 | o::t,v,h=>by
  rw [qez]
  refine qnn t _ ?_
  split
  ·exact qvd v o
  ·exact h
theorem qp6 {x:Int} : ∀ (l:List GOp) (v:Int),qd1 v=v→Wr x l=false→qme x l v=v
 | [],_,_,_=>rfl
 | o::t,v,h,hw=>by
  unfold Wr at hw
  rw [List.any_cons,Bool.or_eq_false_iff] at hw
  rw [qez]
  have:(if o.key=x then doZ v o else v)=v:=by
   split
   ·next e =>
    have hk:o.kind=1:=by
     have:=hw.1
     rw [e] at this
     simpa using this
    unfold doZ
    rw [if_neg (by omega),if_neg (by omega)]
    exact h
   ·rfl
  rw [this]
  exact qp6 t v h hw.2
theorem qh7 {x:Int} {f:Int→List GOp} : ∀ (l:List Int) (v:Int),qd1 v=v→q0d x f l v=q0d x f (l.filter fun n=>Wr x (f n)) v
 | [],_,_=>rfl
 | n::t,v,h=>by
  rw [q0d,List.filter_cons]
  cases hw:Wr x (f n)
  ·rw [qp6 _ _ h hw,qh7 t v h]
   rfl
  ·rw [if_pos rfl,q0d]
   exact qh7 t _ (qnn _ _ h)
theorem qm0 {x:Int} {f g:Int→List GOp} : ∀ (l:List Int) (v:Int),(∀ n∈l,f n=g n)→q0d x f l v=q0d x g l v
 | [],_,_=>rfl
 | n::t,v,h=>by
  rw [q0d,q0d,h n List.mem_cons_self]
  exact qm0 t _ fun m hm=>h m (List.mem_cons_of_mem _ hm)
def zbl (out r:List Int):List Int:=out++r.filter fun m => !qcp out m
theorem mem_addL {out r:List Int} {x:Int}:x∈zbl out r↔x∈out∨x∈r:=by
 unfold zbl
 rw [List.mem_append,List.mem_filter]
 constructor
 ·rintro (h | h)
  ·exact .inl h
  ·exact .inr h.1
 ·rintro (h | h)
  ·exact .inl h
  ·by_cases ho:x∈out
   ·exact .inl ho
   ·refine .inr ⟨h,?_⟩
    cases e:qcp out x
    ·rfl
    ·exact absurd (hasZ_iff.1 e) ho
theorem Ord.add {P:Nat→Nat→Bool} {a b:List Int} (ha:Ord P a) (hb:Ord P b):Ord P (zbl a b):=by
 refine ⟨?_,fun m hm => ?_,fun n hn d hd => ?_,?_⟩
 ·refine List.nodup_append.2 ⟨ha.nodup,hb.nodup.filter _,fun x hx y hy e => ?_⟩
  subst e
  have:=(List.mem_filter.1 hy).2
  rw [hasZ_iff.2 hx] at this
  cases this
 ·rcases mem_addL.1 hm with h | h
  ·exact ha.inr m h
  ·exact hb.inr m h
 ·rw [mem_addL] at hn ⊢
  rcases hn with h | h
  ·exact .inl (ha.clo n h d hd)
  ·exact .inr (hb.clo n h d hd)
 ·refine List.pairwise_append.2 ⟨ha.pw,hb.pw.filter _,fun x hx y hy hp => ?_⟩
  obtain ⟨y1,y2⟩:=List.mem_filter.1 hy
  have hx0:=Int.toNat_of_nonneg (ha.inr x hx).1
  have hy0:=Int.toNat_of_nonneg (hb.inr y y1).1
  have:=ha.clo x.toNat (by rw [hx0];exact hx) y.toNat hp
  rw [hy0] at this
  rw [hasZ_iff.2 this] at y2
  cases y2
end Go.Proofs.Yteilffoclpgijaa
namespace Go.Proofs.Yteilffoclpgijaa
open Go.RowKit
open Rep (rep)
theorem Ord.len {P:Nat→Nat→Bool} {l:List Int} (h:Ord P l):l.length≤32:=by
 have h1:(l.map Int.toNat).Nodup:=by
  refine List.Pairwise.map (R:=fun a b:Int=>a≠b∧0≤a∧0≤b) Int.toNat (fun a b hab e=>hab.1 (by omega)) ?_
  exact h.nodup.imp_of_mem fun {a b} ha hb hab=>⟨hab,(h.inr a ha).1,(h.inr b hb).1⟩
 have:=qhd 32 (l.map Int.toNat) h1 fun x hx=>by
  obtain ⟨a,ha,rfl⟩:=List.mem_map.1 hx
  have:=h.inr a ha
  omega
 simpa using this
theorem qve {has:Nat→Bool} {s:Int} : ∀ (l:List GOp) (k:Nat),qia has s l k=true → ∀ i o,l[i]? = some o→qas o.key=s→has (k+i)=true
 | [],_,_,i,o,h,_=>by simp at h
 | a::t,k,h,i,o,hi,hs=>by
  rw [qia] at h
  cases hb:(qas a.key==s && !has k) with
  | true=>rw [hb] at h;cases h
  | false =>
   rw [hb] at h
   cases i with
   | zero =>
    cases hi
    have e:(qas a.key==s)=true:=by simp [hs]
    rw [e,Bool.true_and] at hb
    simpa using hb
   | succ i =>
    have:=qve t (k+1) h i o hi hs
    rw [show k+(i+1)=k+1+i from by omega]
    exact this
end Go.Proofs.Yteilffoclpgijaa
namespace Go.Proofs.Yteilffoclpgijaa
open Go.RowKit
open Rep (rep)
theorem qz3 {c:GCluster} {net:List ByteArray} {k:Int} {f:GFrame} {s:ByteArray}:(frm2 c net k f s).2.1.begun=c.begun:=by
 unfold frm2
 cases (k==4)
 ·cases (f.kind==1||f.kind==3)
  ·cases ((qbz (qab c.cases f.id.toNat) f.id f).2.2 != 0)<;>rfl
  ·exact comeZ_acts.2.1
 ·rfl
theorem q25 {c:GCluster} {net:List ByteArray} {a:GAct} (h:(a.kind==1)=false):(doA c net a).2.1.begun=c.begun:=by
 unfold doA
 rw [h,cond_false]
 cases (a.kind==2||(a.kind==3||a.kind==4))
 ·rw [cond_false]
  cases (a.kind==5)
  ·rw [cond_false]
   cases (a.kind==6||(a.kind==7||a.kind==8))
   ·rfl
   ·rw [cond_true]
    unfold qql
    cases ql9 a
    ·rfl
    ·rw [cond_true]
     cases (!(qab c.down a.n.toNat==(a.kind==8)))
     ·rw [cond_false]
      cases (a.kind==7)
      ·rw [cond_false]
       cases (a.kind==6)<;>rfl
      ·rfl
     ·rfl
  ·rw [cond_true,qoc]
 ·rw [cond_true]
  unfold ql7
  cases decide (0≤a.n∧a.n<net.length)
  ·rfl
  ·exact qz3
theorem qz4 {c:GCluster} {net:List ByteArray} {ops:List GOp} (h0:0≤c.begun):(qrm c net ops).2.1.begun=(bif (qrm c net ops).1.code==0 then c.begun+1 else c.begun)∧(((qrm c net ops).1.code==0)=true→c.begun<32 ∧ ∀ k:Nat,k<32→(k:Int)≠c.begun→qab (qrm c net ops).2.1.cases k=qab c.cases k):=by
 unfold qrm
 by_cases h32:c.begun≥32
 ·rw [qaj (qaf h32)]
  exact ⟨rfl,fun h=>by cases h⟩
 ·rw [qad (qae h32)]
  cases he:((qdb { id:=c.begun,ops:=ops }).2.2 != 0)
  ·refine ⟨rfl,fun _=>⟨by omega,fun k hk hne => ?_⟩⟩
   show qab (c.cases.setIfInBounds _ _) k=_
   rw [qan (by omega),if_neg (by omega)]
  ·rw [cond_true]
   have hne:(ql3 (qdb { id:=c.begun,ops:=ops }).2.2).code≠0:=by
    show (qdb { id:=c.begun,ops:=ops }).2.2≠0
    simpa using he
   have hf:=beq_false_of_ne hne
   refine ⟨?_,fun h => ?_⟩
   ·show c.begun=_
    rw [hf]
    rfl
   ·rw [hf] at h
    cases h
theorem q26 {c:GCluster} {net:List ByteArray} {a:GAct} (h0:0≤c.begun):(qfq c net a).2.1.begun=(bif a.kind==1&&(qfq c net a).1.code==0 then c.begun+1 else c.begun)∧((a.kind==1&&(qfq c net a).1.code==0)=true→c.begun<32 ∧ ∀ k:Nat,k<32→(k:Int)≠c.begun→qab (qfq c net a).2.1.cases k=qab c.cases k):=by
 unfold qfq
 cases decide (c.acts≥400)
 ·rw [cond_false]
  cases hk:(a.kind==1)
  ·rw [Bool.false_and]
   exact ⟨q25 hk,fun h=>by cases h⟩
  ·rw [Bool.true_and]
   unfold doA
   rw [hk,cond_true]
   exact qz4 (c:={ c with acts:=c.acts+1 }) h0
 ·rw [cond_true]
  have hf:(a.kind==1&&(ql3 5).code==0)=false:=by
   rw [show ((ql3 5).code==0)=false from rfl,Bool.and_false]
  rw [hf]
  exact ⟨rfl,fun h=>by cases h⟩
end Go.Proofs.Yteilffoclpgijaa
namespace Go.Proofs.Yteilffoclpgijaa
open Go.RowKit
open Rep (rep)
structure CaseL (c:GCluster) (i:Nat):Prop where
 known : ∀ k,k<6→qam (qab c.cases i).known k=true→2≤(eat (dur c k).entries i).state
 full:(qab c.cases i).begun=true→qcb (qab c.cases i)=true→(qab c.cases i).fixed=true
structure Liv (c:GCluster):Prop where
 cas : ∀ i,i<32→CaseL c i
 dt : ∀ k,k<6→qab c.down k=true→qab c.tear k=0
theorem CaseL.grow {c d:GCluster} (hg:Grow c d) {i:Nat} (hi:i<32) (he:qab d.cases i=qab c.cases i) (h:CaseL c i):CaseL d i:=by
 refine ⟨fun k hk hh => ?_,fun hb hf => ?_⟩
 ·rw [he] at hh
  have h1:=h.known k hk hh
  have h2:=((hg.durs k hk).ent i hi).state
  omega
 ·rw [he] at hb hf ⊢
  exact h.full hb hf
theorem qz5 {d:GCluster} {i:Nat} {ops:List GOp} (hgo:qap ops=true) (he:qab d.cases i=qun ops):CaseL d i:=by
 refine ⟨fun k _ hh => ?_,fun _ hf => ?_⟩
 ·rw [he] at hh
  have:=qhh (n:=6) k
  rw [show (qun ops).known=Zr.zd from rfl,this] at hh
  cases hh
 ·rw [he] at hf
  exfalso
  have hz : ∀ k,qam (qun ops).told k=false:=fun k=>qhh (n:=6) k
  have hc : ∀ k,qob (qun ops).told k=0:=fun k=>by
   unfold qob
   rw [hz,hz,hz]
   rfl
  unfold qcb at hf
  rw [hc,hc] at hf
  obtain ⟨o,ho⟩:=List.exists_mem_of_length_pos (qci hgo).1
  have ht:qac (qun ops).ops (qas o.key)=true:=List.any_eq_true.2 ⟨o,ho,by simp⟩
  rcases qym o.key with e | e
  ·rw [e] at ht;rw [ht] at hf;simp at hf
  ·rw [e] at ht;rw [ht] at hf;simp at hf
theorem PInv.takes_ok {c:GCluster} {net:List ByteArray} {b:Nat} (h:PInv c net b) {f:GFrame} (hf:NetF c f):qbz (qab c.cases f.id.toNat) f.id f=qa1 (qab c.cases f.id.toNat) f.id f:=by
 obtain ⟨_,hnr,hid⟩:=qa6 hf.good
 have hi:f.id.toNat<32:=by omega
 have hbeg:=hf.ent.beg
 have hg:=h.inv.cas _ hi
 have hcp:=h.cas _ hi hbeg
 have htk:qnu (qab c.cases f.id.toNat) f.id f=true:=by
  unfold qnu
  rw [hg,hbeg,beq_self_eq_true,Bool.true_and,Bool.true_and,Bool.true_and]
  cases hh:qcp (qab c.cases f.id.toNat).deps f.id
  ·rfl
  ·obtain ⟨j,e1,_,e3,_⟩:=hcp.heard _ (hasZ_iff.1 hh)
   exact absurd (by omega) e3
 unfold qbz
 rw [htk,hf.good]
 rfl
theorem qz6 {c d:GCluster} (hg:Grow c d) {f:GFrame} (hf:NetF c f) (hk:f.kind=2∨f.kind=4∨f.kind=5) (hl:CaseL c f.id.toNat) (he:qab d.cases f.id.toNat=(qa1 (qab c.cases f.id.toNat) f.id f).1):CaseL d f.id.toNat:=by
 obtain ⟨_,hn,hid⟩:=qa6 hf.good
 have hi:f.id.toNat<32:=by omega
 have hold : ∀ k,k<6→2≤(eat (dur c k).entries f.id.toNat).state→2≤(eat (dur d k).entries f.id.toNat).state:=fun k hk h=>by
  have:=((hg.durs k hk).ent _ hi).state
  omega
 have hsame : ∀ x:GCase,x.known=(qab c.cases f.id.toNat).known→x.told=(qab c.cases f.id.toNat).told→x.ops=(qab c.cases f.id.toNat).ops→x.fixed=(qab c.cases f.id.toNat).fixed→x.begun=(qab c.cases f.id.toNat).begun→qab d.cases f.id.toNat=x→CaseL d f.id.toNat:=fun x h1 h2 h3 h4 h5 h6=>by
  refine ⟨fun k hk hh => ?_,fun hb hf' => ?_⟩
  ·rw [h6,h1] at hh
   exact hold k hk (hl.known k hk hh)
  ·rw [h6] at hb hf' ⊢
   rw [h4]
   exact hl.full (by rw [← h5];exact hb) (by rw [← qfc h3 h2];exact hf')
 unfold qa1 at he
 rcases hk with e | e | e
 ·rw [e,show ((2:Int)==2)=true from rfl,cond_true] at he
  cases hf2:((qab c.cases f.id.toNat).fixed||(qam (qab c.cases f.id.toNat).told f.node.toNat || !qac (qab c.cases f.id.toNat).ops (ofZ f.node)))
  ·rw [hf2,cond_false] at he
   refine ⟨fun k hk hh => ?_,fun hb hf' => ?_⟩
   ·rw [he] at hh
    exact hold k hk (hl.known k hk hh)
   ·rw [he] at hf' ⊢
    show qcb (qdo _ f)=true
    rw [← hf']
    exact qfc rfl rfl
  ·rw [hf2,cond_true] at he
   exact hsame _ rfl rfl rfl rfl rfl he
 ·rw [e,show ((4:Int)==2)=false from rfl,show ((4:Int)==4)=true from rfl,cond_false,cond_true] at he
  cases hf2:(qab c.cases f.id.toNat).fixed
  ·rw [hf2,cond_false] at he
   exact hsame _ rfl rfl rfl rfl rfl he
  ·rw [hf2,cond_true] at he
   refine ⟨fun k hk hh => ?_,fun hb hf' => ?_⟩
   ·rw [he] at hh
    have hh:qam ((qab c.cases f.id.toNat).known.setIfInBounds f.node.toNat true) k=true:=hh
    rw [qgk (by omega)] at hh
    by_cases e':f.node.toNat=k
    ·subst e'
     exact hold _ hk (hf.ent.known e)
    ·rw [if_neg e'] at hh
     exact hold k hk (hl.known k hk hh)
   ·rw [he]
 ·rw [e,show ((5:Int)==2)=false from rfl,show ((5:Int)==4)=false from rfl,show ((5:Int)==5)=true from rfl,cond_false,cond_false,cond_true] at he
  cases hf2:(qab c.cases f.id.toNat).fixed
  ·rw [hf2,cond_false] at he
   exact hsame _ rfl rfl rfl rfl rfl he
  ·rw [hf2,cond_true] at he
   obtain ⟨a1,a2,a3,a4,a5,a6⟩:=doneL_same (sh:=ofZ f.node) (at_:=f.at_) (vs:=f.vals) (c:=qab c.cases f.id.toNat)
   exact hsame _ a6 a5 a1 a2 a3 he
theorem q27 {c:GCluster} {net:List ByteArray} {b:Nat} (h:PInv c net b) {f:GFrame} (hf:NetF c f) {kind:Int} {s:ByteArray} (i:Nat):qab (frm2 c net kind f s).2.1.cases i=qab c.cases i∨(f.id.toNat=i∧(f.kind=2∨f.kind=4∨f.kind=5)∧qab (frm2 c net kind f s).2.1.cases i=(qa1 (qab c.cases f.id.toNat) f.id f).1):=by
 obtain ⟨hkr,hn,hid⟩:=qa6 hf.good
 have hi:f.id.toNat<32:=by omega
 unfold frm2
 cases (kind==4)
 ·rw [cond_false]
  cases hk:(f.kind==1||f.kind==3)
  ·rw [cond_false]
   simp only [Bool.or_eq_false_iff,beq_eq_false_iff_ne,ne_eq] at hk
   have hk':f.kind=2∨f.kind=4∨f.kind=5:=by omega
   obtain ⟨h0,_⟩:=h.takeG hf hk'
   rw [qad (by simp [h0]),h.takes_ok hf]
   by_cases e:f.id.toNat=i
   ·refine .inr ⟨e,hk',?_⟩
    show qab (c.cases.setIfInBounds _ _) i=_
    rw [qan hi,if_pos e]
   ·refine .inl ?_
    show qab (c.cases.setIfInBounds _ _) i=_
    rw [qan hi,if_neg e]
  ·rw [cond_true]
   refine .inl ?_
   show qab (qdh c net f.node.toNat f s).2.1.cases i=_
   rw [comeZ_acts.2.2]
 ·exact .inl rfl
theorem q28 {c:GCluster} {net:List ByteArray} {ops:List GOp} (h0:0≤c.begun) (i:Nat):qab (qrm c net ops).2.1.cases i=qab c.cases i ∨ ∃ l,qap l=true∧qab (qrm c net ops).2.1.cases i=qun l:=by
 unfold qrm
 by_cases h32:c.begun≥32
 ·rw [qaj (qaf h32)]
  exact .inl rfl
 ·rw [qad (qae h32)]
  by_cases hc:(qdb { id:=c.begun,ops:=ops }).2.2=0
  ·obtain ⟨hgo,hbe⟩:=qu7 hc
   rw [qad (by simp [hc])]
   show qab (c.cases.setIfInBounds _ _) i=_ ∨ ∃ l,_∧qab (c.cases.setIfInBounds _ _) i=_
   rw [qan (by omega),hbe]
   by_cases e:c.begun.toNat=i
   ·rw [if_pos e]
    exact .inr ⟨ops,hgo,rfl⟩
   ·rw [if_neg e]
    exact .inl rfl
  ·rw [qaj (by simp [hc])]
   exact .inl rfl
theorem PInv.caseL {c:GCluster} {net:List ByteArray} {b:Nat} (h:PInv c net b) {a:GAct} {d:GCluster} (hd:d=(doA c net a).2.1) (hg:Grow c d) (hl:Liv c) {i:Nat} (hi:i<32):CaseL d i:=by
 have hsame:qab d.cases i=qab c.cases i→CaseL d i:=fun e=>(hl.cas i hi).grow hg hi e
 subst hd
 unfold doA at hsame hg ⊢
 cases hk1:(a.kind==1)
 ·rw [hk1,cond_false] at hsame hg
  rw [cond_false]
  cases hk2:(a.kind==2||(a.kind==3||a.kind==4))
  ·rw [hk2,cond_false] at hsame hg
   rw [cond_false]
   cases hk5:(a.kind==5)
   ·rw [hk5,cond_false] at hsame hg
    rw [cond_false]
    cases hk6:(a.kind==6||(a.kind==7||a.kind==8))
    ·rw [hk6] at hsame
     exact hsame rfl
    ·rw [hk6,cond_true] at hsame hg
     rw [cond_true]
     refine hsame ?_
     unfold qql
     cases ql9 a
     ·rfl
     ·rw [cond_true]
      cases (!(qab c.down a.n.toNat==(a.kind==8)))
      ·rw [cond_false]
       cases (a.kind==7)
       ·rw [cond_false]
        cases (a.kind==6)<;>rfl
       ·rfl
      ·rfl
   ·rw [hk5,cond_true] at hsame
    refine hsame ?_
    rw [qoc]
  ·rw [hk2,cond_true] at hsame hg
   rw [cond_true]
   unfold ql7 at hsame hg ⊢
   by_cases hx:0≤a.n∧a.n<net.length
   ·rw [qaj (qaf hx)] at hsame hg ⊢
    obtain ⟨hf,e⟩:=h.text hx
    have hp:PInv c (bif a.kind==3 then net else net.eraseIdx a.n.toNat) b:=by
     cases (a.kind==3)
     ·exact h.cut (fun s hs=>List.mem_of_mem_eraseIdx hs) (List.length_eraseIdx_le ..)
     ·exact h
    rcases q27 hp hf (kind:=a.kind) (s:=qhg net a.n) i with e' | ⟨e1,e2,e3⟩
    ·exact hsame e'
    ·subst e1
     exact qz6 hg hf e2 (hl.cas _ hi) e3
   ·rw [qad (qae hx)] at hsame
    rw [qad (qae hx)]
    exact hsame rfl
 ·rw [hk1,cond_true] at hsame
  rw [cond_true]
  rcases q28 (net:=net) (ops:=a.ops) h.inv.begun.1 i with e | ⟨l,e1,e2⟩
  ·exact hsame e
  ·exact qz5 e1 e2
theorem q29 {c:GCluster} (h : ∀ k,k<6→qab c.down k=true→qab c.tear k=0) {n:Nat} (hn:n<6) : ∀ k,k<6→qab (ql5 c n).down k=true→qab (ql5 c n).tear k=0:=fun k hk hd=>by
 have hd:qab (c.down.setIfInBounds n true) k=true:=hd
 show qab (c.tear.setIfInBounds n 0) k=0
 rw [qan hn] at hd ⊢
 by_cases e:n=k
 ·rw [if_pos e]
 ·rw [if_neg e] at hd ⊢
  exact h k hk hd
theorem q60 {c:GCluster} {net:List ByteArray} {f:GFrame} {s:ByteArray} (h : ∀ k,k<6→qab c.down k=true→qab c.tear k=0) {n:Nat} (hn:n<6) : ∀ k,k<6→qab (qdh c net n f s).2.1.down k=true→qab (qdh c net n f s).2.1.tear k=0:=by
 unfold qdh
 cases qab c.down n
 ·cases ((qa0 (qab c.nodes n) n f).2.2 != 0)
  ·cases decide (qab c.tear n>0)
   ·cases (qe4 (qab c.logs n) s != 0)<;>exact h
   ·exact q29 (c:={ c with logs:=c.logs.setIfInBounds n (qg0 (qab c.logs n) s (qab c.tear n-1)) }) h hn
  ·exact h
 ·exact h
theorem PInv.dt {c:GCluster} {net:List ByteArray} {b:Nat} (h:PInv c net b) {a:GAct} (hl : ∀ k,k<6→qab c.down k=true→qab c.tear k=0) : ∀ k,k<6→qab (doA c net a).2.1.down k=true→qab (doA c net a).2.1.tear k=0:=by
 unfold doA
 cases (a.kind==1)
 ·rw [cond_false]
  cases (a.kind==2||(a.kind==3||a.kind==4))
  ·rw [cond_false]
   cases (a.kind==5)
   ·rw [cond_false]
    cases (a.kind==6||(a.kind==7||a.kind==8))
    ·exact hl
    ·rw [cond_true]
     unfold qql
     cases hp:ql9 a
     ·exact hl
     ·unfold ql9 at hp
      simp only [Bool.and_eq_true,decide_eq_true_eq] at hp
      have hn:a.n.toNat<6:=by omega
      rw [cond_true]
      cases hd:(!(qab c.down a.n.toNat==(a.kind==8)))
      ·rw [cond_false]
       cases h7:(a.kind==7)
       ·rw [cond_false]
        cases (a.kind==6)
        ·intro k hk hdk
         have hdk:qab (c.down.setIfInBounds a.n.toNat false) k=true:=hdk
         rw [qan hn] at hdk
         by_cases e:a.n.toNat=k
         ·rw [if_pos e] at hdk;cases hdk
         ·rw [if_neg e] at hdk;exact hl k hk hdk
        ·exact q29 hl hn
       ·intro k hk hdk
        have h8:(a.kind==8)=false:=by
         simp only [beq_iff_eq] at h7
         rw [h7]
         rfl
        rw [h8] at hd
        have hdk:qab c.down k=true:=hdk
        show qab (c.tear.setIfInBounds a.n.toNat (a.m+1)) k=0
        rw [qan hn]
        by_cases e:a.n.toNat=k
        ·rw [e,hdk] at hd;cases hd
        ·rw [if_neg e];exact hl k hk hdk
      ·exact hl
   ·rw [cond_true,qoc]
    exact hl
  ·rw [cond_true]
   unfold ql7
   by_cases hx:0≤a.n∧a.n<net.length
   ·rw [qaj (qaf hx)]
    obtain ⟨hf,e⟩:=h.text hx
    obtain ⟨_,hn,_⟩:=qa6 hf.good
    unfold frm2
    cases (a.kind==4)
    ·rw [cond_false]
     cases ((qey net a.n).kind==1||(qey net a.n).kind==3)
     ·rw [cond_false]
      cases ((qbz (qab c.cases (qey net a.n).id.toNat) (qey net a.n).id (qey net a.n)).2.2 != 0)<;>exact hl
     ·exact q60 hl (by omega)
    ·exact hl
   ·rw [qad (qae hx)]
    exact hl
 ·rw [cond_true]
  unfold qrm
  cases decide (c.begun≥32)
  ·cases ((qdb { id:=c.begun,ops:=a.ops }).2.2 != 0)<;>exact hl
  ·exact hl
theorem PInv.liv {c:GCluster} {net:List ByteArray} {b:Nat} (h:PInv c net b) (hb:b≤60000) (hl:Liv c) {a:GAct}:Liv (qfq c net a).2.1:=by
 unfold qfq
 by_cases ha:c.acts≥400
 ·rw [qaj (qaf ha)]
  exact hl
 ·rw [qad (qae ha)]
  obtain ⟨g1,h1⟩:=h.actsG ha
  have hl1:Liv { c with acts:=c.acts+1 }:=⟨fun i hi=>(hl.cas i hi).grow g1 hi rfl,hl.dt⟩
  exact ⟨fun i hi=>h1.caseL rfl (h1.doAG hb (a:=a)).1 hl1 hi,h1.dt hl1.dt⟩
theorem q61:Liv newCl:=by
 refine ⟨fun i _=>⟨fun k _ hh => ?_,fun hb => ?_⟩,fun k _ hd => ?_⟩
 ·rw [qod] at hh
  have:=qhh (n:=6) k
  rw [show noC.known=Zr.zd from rfl,this] at hh
  cases hh
 ·rw [qod] at hb
  cases hb
 ·show qab (Zr.zd:Vector Int 6) k=0
  rw [qee]
  rfl
theorem q3a : ∀ (l:List GAct) {c:GCluster} {net:List ByteArray} {b:Nat},PInv c net b→b+102*l.length≤60000→Liv c→Liv (goZ c net l).2.1
 | [],_,_,_,_,_,h=>h
 | a::t,_,_,b,h,hb,hl=>by
  simp only [List.length_cons] at hb
  exact q3a t (h.act (by omega) (a:=a)) (by omega) (h.liv (by omega) hl)
end Go.Proofs.Yteilffoclpgijaa
namespace Go.Proofs.Yteilffoclpgijaa
open Go.RowKit
open Rep (rep)
def Idle (s:GNode):Prop := ∀ n:Nat,n<32→(eat s.entries n).state=2→qeg (qbk s) (n:Int)=false
theorem Ex.keeps {s t:GNode} (h:Ex s t) {n:Nat} (hn:n<32) (h2:(eat s.entries n).state≠2):(eat t.entries n).state≠2:=by
 rcases h.ent n hn with e | ⟨e2,_⟩
 ·rw [e];exact h2
 ·exact absurd e2 h2
theorem q3b {s:GNode} {n:Nat} (hn:n<32) (sh:Int):(eat (qkz sh s n).entries n).state≠2:=by
 unfold qkz
 cases h2:((eat s.entries n).state==2)
 ·simpa using h2
 ·show (eat (s.entries.setIfInBounds n _) n).state≠2
  rw [qbd hn,if_pos rfl]
  show (3:Int)≠2
  decide
theorem qyn (sh:Int) {n:Nat} (hn:n<32) : ∀ (l:List Nat) (s:GNode),(∀ m∈l,m<32)→n∈l→(eat (q0c sh s l).entries n).state≠2
 | [],_,_,h=>absurd h List.not_mem_nil
 | m::t,s,hl,h=>by
  show (eat (q0c sh (qkz sh s m) t).entries n).state≠2
  have ht : ∀ x∈t,x<32:=fun x hx=>hl x (List.mem_cons_of_mem _ hx)
  rcases List.mem_cons.1 h with e | h
  ·subst e
   exact (Ex.run sh t _ ht).keeps hn (q3b hn sh)
  ·exact qyn sh hn t _ ht h
theorem q3c {g:GGraph} {sh:Int} {s:GNode} {n:Nat} (hn:n<32) (hr:qeg g (n:Int)=true):(eat (qil g sh s n).entries n).state≠2:=by
 unfold qil
 cases h2:((eat s.entries n).state==2)
 ·simpa using h2
 ·refine qyn sh hn _ s (qp0 hn) ?_
  unfold qwx
  rw [if_pos hr]
  exact (qmr (qdm g) hn n).2 ((qdm g).refl n hn)
theorem qru {g:GGraph} {sh:Int} {n:Nat} (hn:n<32) (hr:qeg g (n:Int)=true) : ∀ (l:List Nat) (s:GNode),(∀ m∈l,m<32)→n∈l→(eat (l.foldl (qil g sh) s).entries n).state≠2
 | [],_,_,h=>absurd h List.not_mem_nil
 | m::t,s,hl,h=>by
  rw [List.foldl_cons]
  have ht : ∀ x∈t,x<32:=fun x hx=>hl x (List.mem_cons_of_mem _ hx)
  rcases List.mem_cons.1 h with e | h
  ·subst e
   exact (Ex.turns g sh t _ ht).keeps hn (q3c hn hr)
  ·exact qru hn hr t _ ht h
theorem Idle.exec (s:GNode) (sh:Int):Idle (qqh s sh):=fun n hn h2=>by
 rw [(Ex.exec s sh).graph]
 cases hr:qeg (qbk s) (n:Int)
 ·rfl
 ·exact absurd h2 (qru hn hr _ s (fun m hm=>List.mem_range.1 hm) (List.mem_range.2 hn))
theorem Idle.take {s:GNode} {who:Int} {f:GFrame} (h:Idle s):Idle (qa0 s who f).1:=by
 by_cases h0:(qa0 s who f).2.2=0
 ·obtain ⟨hs,hw,hn,hz,hk⟩:=qjz h0
  obtain ⟨_,_,hf⟩:=qa6 hz
  have hid:f.id.toNat<32:=by omega
  rw [qgr hs hw hn hz]
  rcases hk with ⟨h1,ht⟩ | h3
  ·rw [qfb h1 ht]
   show Idle (qrj s f (ofZ who))
   unfold qrj
   cases hst:((eat s.entries f.id.toNat).state==0)
   ·exact h
   ·have hst:(eat s.entries f.id.toNat).state=0:=by simpa using hst
    have hat : ∀ k,eat (s.entries.setIfInBounds f.id.toNat (qri s f (ofZ who))) k=if f.id.toNat=k then qri s f (ofZ who) else eat s.entries k:=fun k=>qbd hid
    rw [cond_true]
    have hg:qbk { s with entries:=s.entries.setIfInBounds f.id.toNat (qri s f (ofZ who)) }=qbk s:=by
     refine qus (fun k hk => ?_) fun k hk => ?_
     ·rw [qde hk,qde hk]
      show decide ((eat (s.entries.setIfInBounds _ _) k).state≥2)=_
      rw [hat]
      by_cases e:f.id.toNat=k
      ·rw [if_pos e,← e,hst]
       rfl
      ·rw [if_neg e]
     ·rw [qce hk,qce hk]
      show (eat (s.entries.setIfInBounds _ _) k).deps=_
      rw [hat]
      by_cases e:f.id.toNat=k
      ·rw [if_pos e,← e,(hs.empty hid hst).2.2.1]
       rfl
      ·rw [if_neg e]
    intro n hn2 h2
    rw [hg]
    have h2:(eat (s.entries.setIfInBounds f.id.toNat (qri s f (ofZ who))) n).state=2:=h2
    rw [hat] at h2
    by_cases e:f.id.toNat=n
    ·rw [if_pos e] at h2
     exact absurd (show (1:Int)=2 from h2) (by decide)
    ·rw [if_neg e] at h2
     exact h n hn2 h2
  ·rw [qco h3]
   show Idle (qaw s f (ofZ who))
   unfold qaw
   by_cases h2:(eat s.entries f.id.toNat).state<2
   ·rw [qaj (qaf h2)]
    exact .exec _ _
   ·rw [qad (qae h2)];exact h
 ·rw [(ql1 h0).1];exact h
theorem qp7:Idle zeroN:=fun n _ h2=>by
 have h0:(eat zeroN.entries n).state=0:=by
  show (eat (Zr.zd:Vector GEntry 32) n).state=0
  rw [qsr]
  rfl
 omega
theorem qno {who:Int} : ∀ (l:List ByteArray) {s:GNode},Idle s→Idle (qbc who l s).1
 | [],_,h=>h
 | x::t,s,h=>by
  unfold qbc
  cases ((qj7 (byL x)).2 != 0)
  ·rw [cond_false]
   cases ((qa0 s who (qj7 (byL x)).1).2.2 != 0)
   ·exact qno t h.take
   ·exact qp7
  ·exact qp7
theorem q4z (c:GCluster) (n:Nat):Idle (dur c n):=qno _ qp7
theorem PInv.all_done {c:GCluster} {net:List ByteArray} {b:Nat} (h:PInv c net b) {k:Nat} (hk:k<6) (hc : ∀ i,i<32→(qab c.cases i).begun=true→2≤(eat (dur c k).entries i).state) : ∀ i,i<32→(qab c.cases i).begun=true→(eat (dur c k).entries i).state=3:=fun i hi hb=>by
 have hg:=qcf c k
 have hp:=h.node k hk
 have h1:=hc i hi hb
 have h2:=(hg.state hi).2
 by_cases h3:(eat (dur c k).entries i).state=2
 ·have hno:=q4z c k i hi h3
  have hS : ∀ a b,(a<32∧(qab c.cases a).begun=true)→Edge (qbk (dur c k)) a b→(b<32∧(qab c.cases b).begun=true):=fun a b ha e=>by
   obtain ⟨a32,hka,hd,b32⟩:=e
   rw [qde a32,decide_eq_true_eq] at hka
   rw [qce a32,(hp.fix a a32 hka).2] at hd
   obtain ⟨j,e1,e2,_,e4⟩:=(h.cas a a32 ha.2).heard _ hd
   have:j=b:=by omega
   subst this
   exact ⟨e2,e4⟩
  have hr:qeg (qbk (dur c k)) (i:Int)=true:=by
   refine readyZ_iff.2 ⟨by omega,fun j _ hj hbt => ?_⟩
   unfold qna at hbt
   rw [if_pos (by omega),Int.toNat_natCast,qms hj] at hbt
   obtain ⟨_,hjb⟩:=Path.closed (S:=fun a=>a<32∧(qab c.cases a).begun=true) hS hbt ⟨hi,hb⟩
   rw [qde hj,decide_eq_true_eq]
   exact hc j hj hjb
  rw [hr] at hno
  cases hno
 ·omega
theorem qp8 {sh:Int} : ∀ (l:List GOp) (i:Nat) (v:Vector Int 8) (a b:List Int),∃ L R,(qdf sh i l v a b).2.1=a++L∧(qdf sh i l v a b).2.2=b++R∧(∀ (p:Nat) (o:GOp),l[p]? = some o→qas o.key=sh→((i+p:Nat):Int)∈L) ∧ ∀ x∈R,qd1 x=x
 | [],_,_,a,b=>⟨[],[],(List.append_nil a).symm,(List.append_nil b).symm,fun p o h=>by simp at h,fun x h=>absurd h List.not_mem_nil⟩
 | o::t,i,v,a,b=>by
  rw [qdf]
  cases h:(qas o.key==sh)
  ·obtain ⟨L,R,e1,e2,e3,e4⟩:=qp8 (sh:=sh) t (i+1) v a b
   rw [cond_false]
   refine ⟨L,R,e1,e2,fun p u hp hs => ?_,e4⟩
   cases p with
   | zero =>
    rw [List.getElem?_cons_zero] at hp
    rw [← Option.some.inj hp] at hs
    rw [hs] at h
    simp at h
   | succ p =>
    rw [List.getElem?_cons_succ] at hp
    have:=e3 p u hp hs
    rw [show i+(p+1)=i+1+p by omega]
    exact this
  ·obtain ⟨L,R,e1,e2,e3,e4⟩:=qp8 (sh:=sh) t (i+1) (v.setIfInBounds o.key.toNat (doZ (vat v o.key.toNat) o)) (a++[(i:Int)]) (b++[doZ (vat v o.key.toNat) o])
   rw [cond_true]
   refine ⟨(i:Int)::L,doZ (vat v o.key.toNat) o::R,by rw [e1];simp,by rw [e2];simp,fun p u hp hs => ?_,fun x hx => ?_⟩
   ·cases p with
    | zero=>exact List.mem_cons_self
    | succ p =>
     rw [List.getElem?_cons_succ] at hp
     have:=e3 p u hp hs
     rw [show i+(p+1)=i+1+p by omega]
     exact List.mem_cons_of_mem _ this
   ·rcases List.mem_cons.1 hx with e | hx
    ·rw [e];exact qvd _ _
    ·exact e4 x hx
theorem Vals.whole {sh:Int} {s:GNode} (h:Vals sh s) (hg:GoodN s) {i:Nat} (hi:i<32) (h3:(eat s.entries i).state=3):(∀ (p:Nat) (o:GOp),(eat s.entries i).ops[p]? = some o→qas o.key=sh→(p:Int)∈(eat s.entries i).at_) ∧ ∀ x∈(eat s.entries i).values,qd1 x=x:=by
 obtain ⟨A,B,hs⟩:=List.append_of_mem ((hg.done hi).1 h3)
 have ht:=h.told A i B hs
 rw [Int.toNat_natCast] at ht
 obtain ⟨L,R,e1,e2,e3,e4⟩:=qp8 (sh:=sh) (eat s.entries i).ops 0 (qvn sh s.entries A Zr.zd) [] []
 have h1:(eat s.entries i).at_=L:=(congrArg Prod.fst ht).trans e1
 have h2:(eat s.entries i).values=R:=(congrArg Prod.snd ht).trans e2
 refine ⟨fun p o hp ho => ?_,fun x hx => ?_⟩
 ·rw [h1]
  have:=e3 p o hp ho
  rwa [Nat.zero_add] at this
 ·rw [h2] at hx
  exact e4 x hx
theorem qsy {sh:Int} {c:GCase} {k v:Int} {j:Nat} (h:qam c.has j=true):qam (qbr sh c k v).has j=true:=by
 unfold qbr
 cases hb:(decide (k<(c.ops.length:Int))&&(((idx c.ops k).map fun o=>qas o.key==sh).getD false && !qam c.has k.toNat))
 ·exact h
 ·show qam (c.has.setIfInBounds k.toNat true) j=true
  by_cases hk:k.toNat<4
  ·rw [qgk hk]
   by_cases e:k.toNat=j
   ·rw [if_pos e]
   ·rw [if_neg e];exact h
  ·rw [Vector.setIfInBounds_eq_of_size_le (by omega)]
   exact h
theorem qm1 {sh:Int} : ∀ {at_ vs:List Int} {c:GCase} {j:Nat},qam c.has j=true→qam (qdn sh c at_ vs).has j=true
 | [],_,_,_,h=>by unfold qdn;exact h
 | _::_,[],_,_,h=>by unfold qdn;exact h
 | _::_,_::_,_,_,h=>by rw [qdn];exact qm1 (qsy h)
theorem qvf {sh:Int} : ∀ {at_ vs:List Int} {c:GCase} {j:Nat} {o:GOp},at_.length=vs.length→c.ops.length≤4→(j:Int)∈at_→c.ops[j]? = some o→qas o.key=sh→qam (qdn sh c at_ vs).has j=true
 | [],_,_,_,_,_,_,h,_,_=>absurd h List.not_mem_nil
 | _::_,[],_,_,_,h,_,_,_,_=>by simp at h
 | x::at_,v::vs,c,j,o,hl,h4,hj,ho,hs=>by
  rw [qdn]
  have hops:=(qfp (sh:=sh) (c:=c) (k:=x) (v:=v)).1
  rcases List.mem_cons.1 hj with e | hj
  ·refine qm1 ?_
   subst e
   obtain ⟨hlt,_⟩:=List.getElem?_eq_some_iff.1 ho
   unfold qbr
   have hi:idx c.ops (j:Int)=some o:=by rw [qbm];exact ho
   rw [hi,qaf (by omega),Int.toNat_natCast]
   cases hh:qam c.has j
   ·have:((Option.map (fun o=>qas o.key==sh) (some o)).getD false)=true:=by simp [hs]
    rw [this]
    show qam (c.has.setIfInBounds j true) j=true
    rw [qgk (by omega),if_pos rfl]
   ·rw [Bool.not_true,Bool.and_false,Bool.and_false]
    exact hh
  ·exact qvf (by simpa using hl) (by rw [hops];exact h4) hj (by rw [hops];exact ho) hs
theorem qp9 {has:Nat→Bool} {s:Int} : ∀ (l:List GOp) (k:Nat),(∀ (i:Nat) (o:GOp),l[i]? = some o→qas o.key=s→has (k+i)=true)→qia has s l k=true
 | [],_,_=>rfl
 | o::t,k,h=>by
  have ih:=qp9 (has:=has) (s:=s) t (k+1) fun i u hi hs=>by
   have:=h (i+1) u (by rw [List.getElem?_cons_succ];exact hi) hs
   rw [show k+1+i=k+(i+1) by omega]
   exact this
  rw [qia,ih]
  cases hs:(qas o.key==s)
  ·rfl
  ·have:=h 0 o rfl (by simpa using hs)
   rw [Nat.add_zero] at this
   rw [this]
   rfl
theorem q3d {t:GNode} (hg:GoodN t) {n i:Nat} (hn:n<6) (hi:i<32) (hs:(eat t.entries i).state≠0):qak (qwz n i (eat t.entries i).first)=0:=by
 have hb:=hg.body hi hs
 have e:(qdp (qwz n i (eat t.entries i).first))=true:=by
  unfold qdp
  rw [if_pos (.inl rfl)]
  show (qav (eat t.entries i).first && !qcp (eat t.entries i).first (i:Int))=true
  rw [hb.first,hb.nfirst]
  rfl
 refine qir (by show ¬ ((2:Int)<1∨5<(2:Int));omega) (by show ¬ ((n:Int)<0∨6≤(n:Int)∨(i:Int)<0∨32≤(i:Int));omega) ?_
 rw [e]
 rfl
theorem qrv {n i:Nat} (hn:n<6) (hi:i<32):qak (qjh n i)=0 :=
 qir (by show ¬ ((4:Int)<1∨5<(4:Int));omega) (by show ¬ ((n:Int)<0∨6≤(n:Int)∨(i:Int)<0∨32≤(i:Int));omega) rfl
theorem q3e {m:Int} (hm:m≤4) : ∀ (l:List Int) (b:Int),-1≤b→qvm m b l=true → ∀ i,i<l.length→q3l l i=true∧(i=0→b<l.getD 0 0)
 | [],_,_,_,i,h=>absurd h (by simp)
 | x::t,b,hb,h,i,hi=>by
  unfold qvm at h
  simp only [Bool.and_eq_true,decide_eq_true_eq] at h
  obtain ⟨⟨h1,h2⟩,h3⟩:=h
  have ih:=q3e hm t x (by omega) h3
  cases i with
  | zero =>
   refine ⟨?_,fun _=>h1⟩
   unfold q3l
   simp only [List.getD_cons_zero]
   rw [qaf (by omega),qaf (by omega)]
   rfl
  | succ i =>
   refine ⟨?_,fun h=>by omega⟩
   simp only [List.length_cons] at hi
   obtain ⟨i1,i2⟩:=ih i (by omega)
   unfold q3l at i1 ⊢
   simp only [Bool.and_eq_true,decide_eq_true_eq] at i1
   rw [List.getD_cons_succ,qaf i1.1.1,qaf i1.1.2,Nat.add_sub_cancel]
   cases i with
   | zero =>
    have:=i2 rfl
    rw [List.getD_cons_zero,qaf this]
    rfl
   | succ i =>
    have h4:=i1.2
    rw [Nat.add_sub_cancel] at h4
    simp only [Nat.add_eq_zero_iff,Nat.one_ne_zero,and_false,beq_iff_eq,Bool.or_eq_true,decide_eq_true_eq,false_or] at h4
    rw [List.getD_cons_succ,qaf h4]
    simp
theorem q40 {x:Int} (h:qd1 x=x) : -1099511627776≤x∧x≤1099511627776:=by
 unfold qd1 at h
 split at h
 ·omega
 ·split at h<;>omega
theorem q3f {sh:Int} {t:GNode} (hg:GoodN t) (hv:Vals sh t) {n i:Nat} (hn:n<6) (hi:i<32) (h3:(eat t.entries i).state=3):qak (qwy n i (eat t.entries i))=0:=by
 have hb:=hg.body hi (by omega)
 have hl:=(qci hb.ops).2
 have e:qiq (qwy n i (eat t.entries i))=true:=by
  unfold qiq
  show (((5:Int)==5||(eat t.entries i).at_.length==0)&&((eat t.entries i).at_.length==(eat t.entries i).values.length&&(qgt (q3l (eat t.entries i).at_) (eat t.entries i).at_.length&&qgt (qvy (eat t.entries i).values) (eat t.entries i).values.length)))=true
  have e1:qgt (q3l (eat t.entries i).at_) (eat t.entries i).at_.length=true:=(qd2 _ _).2 fun j hj=>(q3e (m:=((eat t.entries i).ops.length:Int)) (by omega) _ _ (Int.le_refl _) hb.up j hj).1
  have e2:qgt (qvy (eat t.entries i).values) (eat t.entries i).values.length=true:=(qd2 _ _).2 fun j hj=>by
   have hm:(eat t.entries i).values.getD j 0∈(eat t.entries i).values:=by
    rw [List.getD_eq_getElem?_getD,List.getElem?_eq_getElem hj]
    exact List.getElem_mem hj
   have:=q40 ((hv.whole hg hi h3).2 _ hm)
   unfold qvy
   rw [qaf this.1,qaf this.2]
   rfl
  rw [e1,e2,hb.same]
  simp
 refine qir (by show ¬ ((5:Int)<1∨5<(5:Int));omega) (by show ¬ ((n:Int)<0∨6≤(n:Int)∨(i:Int)<0∨32≤(i:Int));omega) ?_
 rw [e]
 rfl
theorem qrw {x:GCase} (hg:qc3 x=true) (hb:x.begun=true) {i k:Nat} (hi:i<32) (hk:k<6) (hd:qcp x.deps (i:Int)=false) : ∀ f∈qdv x i k,qak f=0:=fun f hf=>by
 obtain ⟨h1,h2⟩:=qk1 hg hb
 unfold qdv at hf
 cases hfx:x.fixed
 ·rw [hfx,cond_false] at hf
  cases ht:(qac x.ops (ofZ k) && !qam x.told k)
  ·rw [ht] at hf;cases hf
  ·rw [ht,cond_true] at hf
   have e:=List.mem_singleton.1 hf
   subst e
   refine qir (by show ¬ ((1:Int)<1∨5<(1:Int));omega) (by show ¬ ((k:Int)<0∨6≤(k:Int)∨(i:Int)<0∨32≤(i:Int));omega) ?_
   have e1:qfe ⟨1,k,i,x.ops,[],[],[]⟩=true:=by
    unfold qfe
    rw [if_pos (.inl rfl)]
    exact h1
   rw [e1]
   rfl
 ·rw [hfx,cond_true] at hf
  cases ht:(!qam x.known k || !qbv x (ofZ k))
  ·rw [ht] at hf;cases hf
  ·rw [ht,cond_true] at hf
   have e:=List.mem_singleton.1 hf
   subst e
   refine qir (by show ¬ ((3:Int)<1∨5<(3:Int));omega) (by show ¬ ((k:Int)<0∨6≤(k:Int)∨(i:Int)<0∨32≤(i:Int));omega) ?_
   have e1:qfe ⟨3,k,i,x.ops,x.deps,[],[]⟩=true:=by
    unfold qfe
    rw [if_pos (.inr rfl)]
    exact h1
   have e2:qdp ⟨3,k,i,x.ops,x.deps,[],[]⟩=true:=by
    unfold qdp
    rw [if_pos (.inr rfl)]
    show (qav x.deps && !qcp x.deps (i:Int))=true
    rw [h2,hd]
    rfl
   rw [e1,e2]
   rfl
theorem qhj {x:GCase} {i:Nat} {f:GFrame} : ∀ (m k:Nat),f∈qby x i m k ↔ ∃ j,k≤j∧j<k+m∧f∈qdv x i j
 | 0,k=>by
  unfold qby
  exact ⟨fun h=>absurd h List.not_mem_nil,fun ⟨j,h1,h2,_⟩=>by omega⟩
 | m+1,k=>by
  rw [qby,List.mem_append,qhj m (k+1)]
  constructor
  ·rintro (h | ⟨j,h1,h2,h3⟩)
   ·exact ⟨k,Nat.le_refl _,by omega,h⟩
   ·exact ⟨j,by omega,by omega,h3⟩
  ·rintro ⟨j,h1,h2,h3⟩
   by_cases e:j=k
   ·subst e;exact .inl h3
   ·exact .inr ⟨j,by omega,by omega,h3⟩
end Go.Proofs.Yteilffoclpgijaa
namespace Go.Proofs.Yteilffoclpgijaa
open Go.RowKit
open Rep (rep)
structure Up (c:GCluster) (net:List ByteArray):Prop where
 inv:PInv c net (15300+102*c.acts.toNat)
 liv:Liv c
 up : ∀ k,k<6→qab c.down k=false
 tear : ∀ k,k<6→qab c.tear k=0
def qyo (l:List GFrame):List ByteArray:=l.map fun f=>(qef f).1
structure Nf (i:Nat) (net:List ByteArray) (fr:List GFrame):Prop where
 eq:net=qyo fr
 good : ∀ f∈fr,qak f=0∧f.id=(i:Int)
theorem qvg : ∀ (l:List GFrame) (net:List ByteArray),(∀ f∈l,qak f=0)→net.length+l.length≤60→qgj net l=net++qyo l
 | [],net,_,_=>(List.append_nil net).symm
 | f::t,net,h,hl=>by
  simp only [List.length_cons] at hl
  rw [qgj,h f List.mem_cons_self,qaf (by omega)]
  rw [show ((0:Int)==0&&true)=true from rfl,cond_true,qvg t _ (fun g hg=>h g (List.mem_cons_of_mem _ hg)) (by simp;omega)]
  show (net++[_])++qyo t=net++([_]++qyo t)
  rw [List.append_assoc]
theorem Nf.send {i:Nat} {net:List ByteArray} {fr l:List GFrame} (h:Nf i net fr) (hl : ∀ f∈l,qak f=0∧f.id=(i:Int)) (hlen:fr.length+l.length≤60):Nf i (qgj net l) (fr++l):=by
 refine ⟨?_,fun f hf => ?_⟩
 ·rw [qvg l net (fun f hf=>(hl f hf).1) (by rw [h.eq];unfold qyo;rw [List.length_map];omega),h.eq]
  unfold qyo
  rw [List.map_append]
 ·rcases List.mem_append.1 hf with hf | hf
  ·exact h.good f hf
  ·exact hl f hf
structure Eff (c d:GCluster) (i:Nat) (f:GFrame) (sent:List GFrame):Prop where
 ask:f.kind=1→qab d.cases i=qab c.cases i ∧ ∃ g,sent=[g]∧g.kind=2∧g.node=f.node
 told:f.kind=2→(sent=[]∧qab d.cases i=qab c.cases i∧((qab c.cases i).fixed=true∨qam (qab c.cases i).told f.node.toNat=true∨qac (qab c.cases i).ops (ofZ f.node)=false)) ∨
  ((qab c.cases i).fixed=false∧qab d.cases i=qnt (qdo (qab c.cases i) f)∧sent=bif (qab d.cases i).fixed then qby (qab d.cases i) i 6 0 else [])
 commit:f.kind=3→qab d.cases i=qab c.cases i∧2≤(eat (dur d f.node.toNat).entries i).state∧sent.length≤2∧(∀ g∈sent,g.kind=4∨g.kind=5)∧((eat (dur d f.node.toNat).entries i).state=3→qac (qab c.cases i).ops (ofZ f.node)=true → ∃ g∈sent,g.kind=5∧g.node=f.node)
 known:f.kind=4→sent=[]∧(qab d.cases i).fixed=(qab c.cases i).fixed∧(qab d.cases i).ops=(qab c.cases i).ops∧(qab d.cases i).told=(qab c.cases i).told∧(qab d.cases i).has=(qab c.cases i).has
 done:f.kind=5→sent=[]∧(qab d.cases i).fixed=(qab c.cases i).fixed∧(qab d.cases i).ops=(qab c.cases i).ops∧(qab d.cases i).told=(qab c.cases i).told∧(∀ k,qam (qab c.cases i).has k=true→qam (qab d.cases i).has k=true)∧((qab c.cases i).fixed=true→qbv (qab d.cases i) (ofZ f.node)=true)
theorem q62 {c:GCluster} {net:List ByteArray} {b n:Nat} (h:PInv c net b) (hb:b≤60000) (hn:n<6) {f:GFrame} (hf:NetF c f) (hfn:f.node=n) (hk:f.kind=1∨f.kind=3) (hup:qab c.down n=false) (ht:qab c.tear n=0) :
  qdh c net n f (qef f).1=(0,{ c with logs:=c.logs.setIfInBounds n (qto (qab c.logs n) (qef f).1),nodes:=c.nodes.setIfInBounds n (qa0 (dur c n) n f).1 },qgj net (qa0 (dur c n) n f).2.1):=by
 have hs1:=q20 hf.good
 have hs2:=ql4 f
 have hlen:=h.len n hn
 have hw:=qrt (log:=qab c.logs n) hs1 (by omega) (by omega)
 obtain ⟨t1,_,_⟩:=(h.node n hn).take hn (qcf c n) hf.ent hf.good hfn hk
 obtain ⟨u1,_⟩:=h.up n hn hup
 unfold qdh
 rw [hup,cond_false,u1,t1,qad (by rfl),ht,qad (qae (by omega)),hw,qad (by rfl)]
theorem qz7 {c:GCluster} {net:List ByteArray} {b:Nat} (h:PInv c net b) {f:GFrame} (hf:NetF c f) (h5:f.kind=5) {x:GCase} (hx:x.ops=(qab c.cases f.id.toNat).ops):qbv (qdn (ofZ f.node) x f.at_ f.vals) (ofZ f.node)=true:=by
 obtain ⟨_,hn,hid⟩:=qa6 hf.good
 have hi:f.id.toNat<32:=by omega
 have hnz:((f.node.toNat:Nat):Int)=f.node:=by omega
 obtain ⟨d1,d2,d3⟩:=hf.ent.done h5
 have hg:=qcf c f.node.toNat
 obtain ⟨w1,_⟩:=(qoe c f.node.toNat).whole hg hi d1
 have hops:=((h.node f.node.toNat (by omega)).beg f.id.toNat hi (by omega)).2
 have hbody:=hg.body hi (show (eat (dur c f.node.toNat).entries f.id.toNat).state≠0 by omega)
 have h4:=(qci hbody.ops).2
 unfold qbv
 rw [(doneL_same (sh:=ofZ f.node) (at_:=f.at_) (vs:=f.vals) (c:=x)).1]
 refine qp9 _ 0 fun j o hj hs => ?_
 rw [Nat.zero_add]
 rw [hx] at hj
 refine qvf (o:=o) ?_ ?_ ?_ (by rw [hx];exact hj) hs
 ·rw [d2,d3];exact hbody.same
 ·rw [hx,← hops];exact h4
 ·rw [d2]
  refine w1 j o ?_ (by rw [hnz];exact hs)
  rw [hops]
  exact hj
theorem qmf {x:GCase} {i:Nat} {f:GFrame} {k:Nat} (hf:f∈qdv x i k):f.id=(i:Int)∧f.node=(k:Int)∧(x.fixed=true→f.kind=3∧(qam x.known k=false∨qbv x (ofZ k)=false))∧(x.fixed=false→f.kind=1):=by
 unfold qdv at hf
 cases hfx:x.fixed
 ·rw [hfx,cond_false] at hf
  cases ht:(qac x.ops (ofZ k) && !qam x.told k)
  ·rw [ht] at hf;cases hf
  ·rw [ht,cond_true] at hf
   rw [List.mem_singleton.1 hf]
   exact ⟨rfl,rfl,fun h=>(Bool.noConfusion h),fun _=>rfl⟩
 ·rw [hfx,cond_true] at hf
  cases ht:(!qam x.known k || !qbv x (ofZ k))
  ·rw [ht] at hf;cases hf
  ·rw [ht,cond_true] at hf
   rw [List.mem_singleton.1 hf]
   refine ⟨rfl,rfl,fun _=>⟨rfl,?_⟩,fun h=>(Bool.noConfusion h)⟩
   rw [Bool.or_eq_true,Bool.not_eq_true',Bool.not_eq_true'] at ht
   exact ht
theorem PInv.sends_ok {c:GCluster} {net:List ByteArray} {b:Nat} (h:PInv c net b) {i:Nat} (hi:i<32) (hb:(qab c.cases i).begun=true):qsk (qab c.cases i) i=true∧qcp (qab c.cases i).deps (i:Int)=false:=by
 have hd:qcp (qab c.cases i).deps (i:Int)=false:=by
  cases hh:qcp (qab c.cases i).deps (i:Int)
  ·rfl
  ·obtain ⟨j,e1,_,e3,_⟩:=(h.cas i hi hb).heard _ (hasZ_iff.1 hh)
   exact absurd (by omega) e3
 refine ⟨?_,hd⟩
 unfold qsk
 rw [h.inv.cas i hi,hb,hd,qaf (by omega)]
 rfl
theorem q3g {c:GCluster} {net:List ByteArray} {b n i:Nat} (h:PInv c net b) (hn:n<6) (hi:i<32) {f:GFrame} (hf:NetF c f) (en:f.node=(n:Int)) (ei:f.id=(i:Int)) (hk:f.kind=1∨f.kind=3) :
  (∀ g∈(qa0 (dur c n) n f).2.1,qak g=0∧g.id=(i:Int))∧(f.kind=1 → ∃ g,(qa0 (dur c n) n f).2.1=[g]∧g.kind=2∧g.node=f.node) ∧
  (f.kind=3→2≤(eat (qa0 (dur c n) n f).1.entries i).state∧(qa0 (dur c n) n f).2.1.length≤2∧(∀ g∈(qa0 (dur c n) n f).2.1,g.kind=4∨g.kind=5)∧((eat (qa0 (dur c n) n f).1.entries i).state=3→qac (qab c.cases i).ops (ofZ f.node)=true → ∃ g∈(qa0 (dur c n) n f).2.1,g.kind=5∧g.node=f.node)):=by
 obtain ⟨t1,t2,t3⟩:=(h.node n hn).take hn (qcf c n) hf.ent hf.good en hk
 have tg:=qex t1
 have tv:=(qoe c n).take (f:=f)
 have hit:f.id.toNat=i:=by rw [ei,Int.toNat_natCast]
 have hof:=qgr (qcf c n) (who:=(n:Int)) (by omega) en hf.good
 rcases hk with h1 | h3
 ·obtain ⟨_,ht⟩:=hf.ent.ask h1
  rw [en] at ht
  have htk:=hof.trans (qfb h1 ht)
  rw [htk] at t3 tg
  have hst:=((t3 _ List.mem_cons_self).2.2.told rfl).1
  rw [hit] at hst
  rw [htk,hit,ei,en]
  refine ⟨fun g hg => ?_,fun _=>⟨_,rfl,rfl,rfl⟩,fun h3=>by omega⟩
  rw [List.mem_singleton.1 hg]
  exact ⟨q3d tg hn hi hst,rfl⟩
 ·have htk:=hof.trans (qco (s:=dur c n) (who:=(n:Int)) h3)
  rw [htk] at t2 tg tv
  have hst:=ql2 (s:=dur c n) (f:=f) (by omega) (ofZ n)
  rw [hit] at hst
  have hops:=(t2.beg i hi (by dsimp only;omega)).2
  dsimp only at hops tv tg
  rw [htk,ei,en]
  refine ⟨fun g hg => ?_,fun h1=>by omega,fun _=>⟨hst,?_,fun g hg => ?_,fun h3' ht => ?_⟩⟩
  ·have hg:g∈qc0 (ofZ n) n i (qaw (dur c n) f (ofZ n)):=hg
   unfold qc0 at hg
   rw [Int.toNat_natCast] at hg
   cases hb:((eat (qaw (dur c n) f (ofZ n)).entries i).state==3&&qac (eat (qaw (dur c n) f (ofZ n)).entries i).ops (ofZ n))
   ·rw [hb,cond_false] at hg
    rw [List.mem_singleton.1 hg]
    exact ⟨qrv hn hi,rfl⟩
   ·rw [hb,cond_true] at hg
    simp only [Bool.and_eq_true,beq_iff_eq] at hb
    rcases List.mem_cons.1 hg with hg | hg
    ·rw [hg];exact ⟨qrv hn hi,rfl⟩
    ·rw [List.mem_singleton.1 hg]
     exact ⟨q3f tg tv hn hi hb.1,rfl⟩
  ·show (qc0 (ofZ n) n i (qaw (dur c n) f (ofZ n))).length≤2
   unfold qc0
   cases ((eat (qaw (dur c n) f (ofZ n)).entries (i:Int).toNat).state==3&&qac (eat (qaw (dur c n) f (ofZ n)).entries (i:Int).toNat).ops (ofZ n))<;>simp
  ·have hg:g∈qc0 (ofZ n) n i (qaw (dur c n) f (ofZ n)):=hg
   unfold qc0 at hg
   cases hb:((eat (qaw (dur c n) f (ofZ n)).entries (i:Int).toNat).state==3&&qac (eat (qaw (dur c n) f (ofZ n)).entries (i:Int).toNat).ops (ofZ n))
   ·rw [hb,cond_false] at hg
    rw [List.mem_singleton.1 hg]
    exact .inl rfl
   ·rw [hb,cond_true] at hg
    rcases List.mem_cons.1 hg with hg | hg
    ·rw [hg];exact .inl rfl
    ·rw [List.mem_singleton.1 hg];exact .inr rfl
  ·refine ⟨qwy n i (eat (qaw (dur c n) f (ofZ n)).entries i),?_,rfl,rfl⟩
   show _∈qc0 (ofZ n) n i (qaw (dur c n) f (ofZ n))
   have h3':(eat (qaw (dur c n) f (ofZ n)).entries i).state=3:=h3'
   unfold qc0
   rw [Int.toNat_natCast,h3',hops,ht]
   exact List.mem_cons_of_mem _ List.mem_cons_self
theorem q3h {c:GCluster} {net:List ByteArray} {b n i:Nat} (h:PInv c net b) (hn:n<6) (hi:i<32) {f:GFrame} (hf:NetF c f) (en:f.node=(n:Int)) (ei:f.id=(i:Int)) (hk:f.kind=2∨f.kind=4∨f.kind=5) (hin:CInv { c with cases:=c.cases.setIfInBounds i (qa1 (qab c.cases i) i f).1 } []) :
  (∀ g∈(qa1 (qab c.cases i) i f).2.1,qak g=0∧g.id=(i:Int))∧(qa1 (qab c.cases i) i f).2.1.length≤6 ∧
  ∀ d:GCluster,qab d.cases i=(qa1 (qab c.cases i) i f).1→Eff c d i f (qa1 (qab c.cases i) i f).2.1:=by
 have hit:f.id.toNat=i:=by rw [ei,Int.toNat_natCast]
 have hbeg:=hf.ent.beg
 rw [hit] at hbeg
 have hno : ∀ a b:Int,f.kind=a→a≠b → ¬ f.kind=b:=fun a b e hne e'=>hne (e.symm.trans e')
 rcases hk with e | e | e
 ·unfold qa1
  rw [e,show ((2:Int)==2)=true from rfl,cond_true]
  cases hf2:((qab c.cases i).fixed||(qam (qab c.cases i).told f.node.toNat || !qac (qab c.cases i).ops (ofZ f.node)))
  ·rw [cond_false]
   have hfx:(qab c.cases i).fixed=false:=by
    cases h:(qab c.cases i).fixed
    ·rfl
    ·rw [h] at hf2;cases hf2
   have hgc:qc3 (qnt (qdo (qab c.cases i) f))=true:=by
    have:=hin.cas i hi
    rw [qan hi,if_pos rfl] at this
    unfold qa1 at this
    rw [e,show ((2:Int)==2)=true from rfl,cond_true,hf2,cond_false] at this
    exact this
   have hbt:(qnt (qdo (qab c.cases i) f)).begun=true:=hbeg
   have hdt:qcp (qnt (qdo (qab c.cases i) f)).deps (i:Int)=false:=by
    cases hh:qcp (qnt (qdo (qab c.cases i) f)).deps (i:Int)
    ·rfl
    ·exfalso
     have hm:(i:Int)∈qgx (qab c.cases i).deps f.deps:=hasZ_iff.1 hh
     rcases (mem_union.1 hm).2 with hd | hd
     ·obtain ⟨j,a1,_,a3,_⟩:=(h.cas i hi hbeg).heard _ hd
      omega
     ·obtain ⟨t1,t2⟩:=hf.ent.told e
      rw [hit] at t1 t2
      rw [t2] at hd
      obtain ⟨j,a1,_,a3,_⟩:=(h.node f.node.toNat (by omega)).heard i hi t1 _ hd
      omega
   have hs:qsk (qnt (qdo (qab c.cases i) f)) i=true:=by
    unfold qsk
    rw [hgc,hbt,hdt,qaf (by omega)]
    rfl
   have hac:qe9 (qnt (qdo (qab c.cases i) f)) (i:Int)=qby (qnt (qdo (qab c.cases i) f)) i 6 0:=by
    unfold qe9
    rw [hs,cond_true]
   rw [hac]
   refine ⟨fun g hg => ?_,?_,fun d hd=>⟨fun h1=>absurd h1 (hno 2 1 e (by decide)),fun _ => .inr ⟨hfx,hd,by rw [hd]⟩,fun h3=>absurd h3 (hno 2 3 e (by decide)),fun h4=>absurd h4 (hno 2 4 e (by decide)),fun h5=>absurd h5 (hno 2 5 e (by decide))⟩⟩
   ·have hg:g∈bif (qnt (qdo (qab c.cases i) f)).fixed then qby (qnt (qdo (qab c.cases i) f)) i 6 0 else []:=hg
    cases hfx2:(qnt (qdo (qab c.cases i) f)).fixed
    ·rw [hfx2] at hg;cases hg
    ·rw [hfx2,cond_true] at hg
     obtain ⟨k,_,k2,k3⟩:=(qhj 6 0).1 hg
     exact ⟨qrw hgc hbt hi (by omega) hdt g k3,(qmf k3).1⟩
   ·have:=(againC_small (c:=qnt (qdo (qab c.cases i) f)) (id:=(i:Int))).1
    rw [hac] at this
    show (bif (qnt (qdo (qab c.cases i) f)).fixed then qby (qnt (qdo (qab c.cases i) f)) i 6 0 else []).length≤6
    cases (qnt (qdo (qab c.cases i) f)).fixed
    ·exact Nat.zero_le _
    ·exact this
  ·rw [cond_true]
   refine ⟨fun g hg=>absurd hg List.not_mem_nil,Nat.zero_le _,fun d hd=>⟨fun h1=>absurd h1 (hno 2 1 e (by decide)),fun _ => .inl ⟨rfl,hd,?_⟩,fun h3=>absurd h3 (hno 2 3 e (by decide)),fun h4=>absurd h4 (hno 2 4 e (by decide)),fun h5=>absurd h5 (hno 2 5 e (by decide))⟩⟩
   simp only [Bool.or_eq_true,Bool.not_eq_true'] at hf2
   exact hf2
 ·unfold qa1
  rw [e,show ((4:Int)==2)=false from rfl,show ((4:Int)==4)=true from rfl,cond_false,cond_true]
  cases hfx:(qab c.cases i).fixed
  ·rw [cond_false]
   exact ⟨fun g hg=>absurd hg List.not_mem_nil,Nat.zero_le _,fun d hd=>⟨fun h1=>absurd h1 (hno 4 1 e (by decide)),fun h2=>absurd h2 (hno 4 2 e (by decide)),fun h3=>absurd h3 (hno 4 3 e (by decide)),fun _=>⟨rfl,by rw [hd],by rw [hd],by rw [hd],by rw [hd]⟩,fun h5=>absurd h5 (hno 4 5 e (by decide))⟩⟩
  ·rw [cond_true]
   exact ⟨fun g hg=>absurd hg List.not_mem_nil,Nat.zero_le _,fun d hd=>⟨fun h1=>absurd h1 (hno 4 1 e (by decide)),fun h2=>absurd h2 (hno 4 2 e (by decide)),fun h3=>absurd h3 (hno 4 3 e (by decide)),fun _=>⟨rfl,by rw [hd];exact hfx.symm,by rw [hd],by rw [hd],by rw [hd]⟩,fun h5=>absurd h5 (hno 4 5 e (by decide))⟩⟩
 ·unfold qa1
  rw [e,show ((5:Int)==2)=false from rfl,show ((5:Int)==4)=false from rfl,show ((5:Int)==5)=true from rfl,cond_false,cond_false,cond_true]
  cases hfx:(qab c.cases i).fixed
  ·rw [cond_false]
   exact ⟨fun g hg=>absurd hg List.not_mem_nil,Nat.zero_le _,fun d hd=>⟨fun h1=>absurd h1 (hno 5 1 e (by decide)),fun h2=>absurd h2 (hno 5 2 e (by decide)),fun h3=>absurd h3 (hno 5 3 e (by decide)),fun h4=>absurd h4 (hno 5 4 e (by decide)),fun _=>⟨rfl,by rw [hd],by rw [hd],by rw [hd],fun k hk=>by rw [hd];exact hk,fun hh=>by rw [hfx] at hh;cases hh⟩⟩⟩
  ·rw [cond_true]
   obtain ⟨a1,a2,a3,a4,a5,a6⟩:=doneL_same (sh:=ofZ f.node) (at_:=f.at_) (vs:=f.vals) (c:=qab c.cases i)
   refine ⟨fun g hg=>absurd hg List.not_mem_nil,Nat.zero_le _,fun d hd=>⟨fun h1=>absurd h1 (hno 5 1 e (by decide)),fun h2=>absurd h2 (hno 5 2 e (by decide)),fun h3=>absurd h3 (hno 5 3 e (by decide)),fun h4=>absurd h4 (hno 5 4 e (by decide)),fun _=>⟨rfl,by rw [hd];exact a2,by rw [hd];exact a1,by rw [hd];exact a5,fun k hk=>by rw [hd];exact qm1 hk,fun _ => ?_⟩⟩⟩
   rw [hd]
   exact qz7 h hf e (x:=qab c.cases i) (by rw [hit])
def dlv:GAct:={ kind:=2,n:=0,m:=0,ops:=[] }
theorem q63 {c:GCluster} {net:List ByteArray} (ha:c.acts<400) (hl:0<net.length):qfq c net dlv=frm2 { c with acts:=c.acts+1 } (net.eraseIdx 0) 2 (qey net 0) (qhg net 0):=by
 unfold qfq
 rw [qad (qae (by omega))]
 show ql7 { c with acts:=c.acts+1 } net dlv=_
 unfold ql7
 rw [qaj (qaf (by show (0:Int)≤0∧(0:Int)<net.length;omega))]
 rfl
theorem Up.deliver {c:GCluster} {net:List ByteArray} (h:Up c net) (ha:c.acts<400) {i:Nat} (hi:i<32) {f:GFrame} {fr:List GFrame} (hn:Nf i net (f::fr)) (hlen:fr.length≤50) :
  ∃ r d net',qfq c net dlv=(r,d,net')∧r.code≠5∧Up d net'∧d.acts=c.acts+1∧d.begun=c.begun∧Grow c d∧(∀ j,j≠i→qab d.cases j=qab c.cases j) ∧ ∃ sent,Nf i net' (fr++sent)∧Eff c d i f sent:=by
 have ha0:=h.inv.inv.acts.1
 obtain ⟨hg0,hp0⟩:=h.inv.actG (by omega) (a:=dlv)
 have hl0:=h.inv.liv (by omega) h.liv (a:=dlv)
 have hb0:=(q26 (c:=c) (net:=net) (a:=dlv) h.inv.inv.begun.1).1
 have hac0:=qu3 (c:=c) (net:=net) (a:=dlv) (by omega)
 obtain ⟨hgf,hidf⟩:=hn.good f List.mem_cons_self
 have hnl:0<net.length:=by rw [hn.eq];unfold qyo;simp
 have ht0:=h.inv.text (x:=0) ⟨Int.le_refl _,by omega⟩
 have htx:qhg net 0=(qef f).1:=by rw [hn.eq];rfl
 have hfa:qey net 0=f:=by
  unfold qey
  rw [htx,qyi hgf]
 rw [hfa] at ht0
 have hnet:=ht0.1
 have her:net.eraseIdx 0=qyo fr:=by rw [hn.eq];rfl
 have hact:=q63 (net:=net) ha hnl
 rw [hfa,htx,her] at hact
 obtain ⟨g1,h1⟩:=h.inv.actsG (by omega)
 have h1:PInv { c with acts:=c.acts+1 } (qyo fr) (15300+102*c.acts.toNat):=h1.cut (fun s hs=>by rw [hn.eq];exact List.mem_cons_of_mem _ hs) (by rw [hn.eq];show (qyo fr).length≤(qyo fr).length+1;omega)
 have hnet1:NetF { c with acts:=c.acts+1 } f:=hnet.grow g1
 have hfr:Nf i (qyo fr) fr:=⟨rfl,fun g hg=>hn.good g (List.mem_cons_of_mem _ hg)⟩
 obtain ⟨hkr,hnr,hid⟩:=qa6 hgf
 have hit:f.id.toNat=i:=by omega
 have hk6:f.node.toNat<6:=by omega
 have hnz:((f.node.toNat:Nat):Int)=f.node:=by omega
 have hbeg:=hnet.ent.beg
 rw [hit] at hbeg
 suffices hs : ∃ r d net',frm2 { c with acts:=c.acts+1 } (qyo fr) 2 f (qef f).1=(r,d,net')∧r.code≠5∧(∀ k,k<6→qab d.down k=false)∧(∀ k,k<6→qab d.tear k=0)∧(∀ j,j≠i→qab d.cases j=qab c.cases j) ∧ ∃ sent,Nf i net' (fr++sent)∧(PInv d net' (15300+102*c.acts.toNat+102)→Grow c d→Eff c d i f sent) by
  obtain ⟨r,d,net',e1,e2,e3,e4,e5,sent,e6,e7⟩:=hs
  rw [hact,e1] at hg0 hp0 hl0 hb0 hac0
  rw [hact]
  refine ⟨r,d,net',e1,e2,⟨?_,hl0,e3,e4⟩,hac0,hb0,hg0,e5,sent,e6,e7 hp0 hg0⟩
  have:d.acts=c.acts+1:=hac0
  exact hp0.mono (by omega)
 have en:f.node=((f.node.toNat:Nat):Int):=hnz.symm
 have hdur : ∀ k,dur { c with acts:=c.acts+1 } k=dur c k:=fun _=>rfl
 unfold frm2
 rw [qad (by rfl)]
 by_cases hk:f.kind=1∨f.kind=3
 ·rw [qaj (by rcases hk with e | e<;>rw [e]<;>rfl),q62 h1 (by omega) hk6 hnet1 en hk (h.up _ hk6) (h.tear _ hk6),hdur]
  obtain ⟨s1,s2,s3⟩:=q3g h.inv hk6 hi hnet en hidf hk
  have hlen2:(qa0 (dur c f.node.toNat) f.node.toNat f).2.1.length≤2:=by
   rcases hk with e | e
   ·obtain ⟨g,e',_⟩:=s2 e
    rw [e']
    exact Nat.le_succ 1
   ·exact (s3 e).2.1
  refine ⟨_,_,_,rfl,by show (0:Int)≠5;decide,h.up,h.tear,fun j _=>rfl,(qa0 (dur c f.node.toNat) f.node.toNat f).2.1,hfr.send s1 (by omega),fun hpd _ => ?_⟩
  have hdd:=(hpd.up f.node.toNat hk6 (h.up _ hk6)).1
  have hdd:dur _ f.node.toNat=(qa0 (dur c f.node.toNat) f.node.toNat f).1:=hdd.symm.trans (by
   show qab (c.nodes.setIfInBounds _ _) f.node.toNat=_
   rw [qan hk6,if_pos rfl])
  refine ⟨fun h1=>⟨rfl,s2 h1⟩,fun h2=>absurd h2 (by rcases hk with e | e<;>rw [e]<;>decide),fun h3=>⟨rfl,?_⟩,fun h4=>absurd h4 (by rcases hk with e | e<;>rw [e]<;>decide),fun h5=>absurd h5 (by rcases hk with e | e<;>rw [e]<;>decide)⟩
  rw [hdd]
  exact s3 h3
 ·have hk2:f.kind=2∨f.kind=4∨f.kind=5:=by omega
  rw [qad (by
   have h1:(f.kind==1)=false:=beq_false_of_ne (by omega)
   have h3:(f.kind==3)=false:=beq_false_of_ne (by omega)
   rw [h1,h3]
   rfl)]
  obtain ⟨k0,_,kp⟩:=h1.takeG hnet1 hk2
  have hci:CInv { ({ c with acts:=c.acts+1 }:GCluster) with cases:=c.cases.setIfInBounds f.id.toNat (qbz (qab c.cases f.id.toNat) f.id f).1 } []:=kp.inv.cut (fun s hs=>absurd hs List.not_mem_nil) (Nat.zero_le _)
  have htc:=h1.takes_ok hnet1
  have htc:qbz (qab c.cases f.id.toNat) f.id f=qa1 (qab c.cases f.id.toNat) f.id f:=htc
  have k0:(qbz (qab c.cases f.id.toNat) f.id f).2.2=0:=k0
  rw [htc] at hci k0
  rw [hit,hidf] at hci k0 htc
  have hnet2:NetF { c with acts:=c.acts+1 } f:=hnet1
  obtain ⟨s1,s2,s3⟩:=q3h h1 hk6 hi hnet1 en hidf hk2 hci
  show ∃ r d net',(bif (qbz (qab c.cases f.id.toNat) f.id f).2.2 != 0 then _ else _)=(r,d,net')∧_
  rw [hit,hidf,htc,k0,qad (by rfl)]
  refine ⟨_,_,_,rfl,by show (0:Int)≠5;decide,h.up,h.tear,fun j hj => ?_,(qa1 (qab c.cases i) i f).2.1,hfr.send s1 (by have:(qa1 (qab c.cases i) i f).2.1.length≤6:=s2;omega),fun _ _ => ?_⟩
  ·show qab (c.cases.setIfInBounds i _) j=_
   rw [qan hi,if_neg (fun e=>hj e.symm)]
  ·have:=s3 { ({ c with acts:=c.acts+1 }:GCluster) with cases:=c.cases.setIfInBounds i (qa1 (qab c.cases i) i f).1 } (by
    show qab (c.cases.setIfInBounds i _) i=_
    rw [qan hi,if_pos rfl])
   exact ⟨this.ask,this.told,this.commit,this.known,this.done⟩
end Go.Proofs.Yteilffoclpgijaa
namespace Go.Proofs.Yteilffoclpgijaa
open Go.RowKit
open Rep (rep)
def wt (f:GFrame):Nat:=if f.kind=1 then 2 else if f.kind=3 then 3 else 1
def wts:List GFrame→Nat
 | []=>0
 | f::t=>wt f+wts t
theorem q5j (f:GFrame):1≤wt f:=by
 unfold wt
 split
 ·omega
 ·split<;>omega
theorem q3i : ∀ (a b:List GFrame),wts (a++b)=wts a+wts b
 | [],b=>(Nat.zero_add _).symm
 | f::t,b=>by
  show wt f+wts (t++b)=wt f+wts t+wts b
  rw [q3i t b]
  omega
theorem q3j : ∀ l:List GFrame,l.length≤wts l
 | []=>Nat.le_refl _
 | f::t=>by
  have h1:=q5j f
  have h2:=q3j t
  show t.length+1≤wt f+wts t
  omega
theorem qvh {w:Nat} : ∀ l:List GFrame,(∀ f∈l,wt f≤w)→wts l≤l.length*w
 | [],_=>Nat.zero_le _
 | f::t,h=>by
  have h1:=h f List.mem_cons_self
  have h2:=qvh t fun g hg=>h g (List.mem_cons_of_mem _ hg)
  show wt f+wts t≤(t.length+1)*w
  rw [Nat.add_mul]
  omega
def pot (x:GCase) (l:List GFrame):Nat:=wts l+bif x.fixed then 0 else 18
theorem qj1 {x:GCase} {i:Int} : ∀ (m k:Nat),(qby x i m k).length≤m
 | 0,_=>Nat.le_refl _
 | m+1,k=>by
  have h1:=qpv x i k
  have h2:=qj1 (x:=x) (i:=i) m (k+1)
  rw [qby,List.length_append]
  omega
theorem qvi {x:GCase} {i:Nat}:pot x (qby x i 6 0)≤30:=by
 have hl:=qj1 (x:=x) (i:=(i:Int)) 6 0
 unfold pot
 cases hf:x.fixed
 ·have:=qvh (w:=2) (qby x i 6 0) fun f hf'=>by
   obtain ⟨k,_,_,hk⟩:=(qhj 6 0).1 hf'
   have:=(qmf hk).2.2.2 hf
   unfold wt
   rw [if_pos this]
   exact Nat.le_refl _
  show wts _+18≤30
  omega
 ·have:=qvh (w:=3) (qby x i 6 0) fun f hf'=>by
   obtain ⟨k,_,_,hk⟩:=(qhj 6 0).1 hf'
   have:=((qmf hk).2.2.1 hf).1
   unfold wt
   rw [if_neg (by omega),if_pos this]
   exact Nat.le_refl _
  show wts _+0≤30
  omega
theorem Eff.pot {c d:GCluster} {i:Nat} {f:GFrame} {fr sent:List GFrame} (h:Eff c d i f sent) (hk:1≤f.kind∧f.kind≤5):pot (qab d.cases i) (fr++sent)+1≤pot (qab c.cases i) (f::fr):=by
 have hw:wts (f::fr)=wt f+wts fr:=rfl
 unfold Go.Proofs.Yteilffoclpgijaa.pot
 rw [q3i,hw]
 have h1:=q5j f
 have hk:f.kind=1∨f.kind=2∨f.kind=3∨f.kind=4∨f.kind=5:=by omega
 rcases hk with e | e | e | e | e
 ·obtain ⟨e1,g,e2,e3,_⟩:=h.ask e
  rw [e1,e2]
  have hg:wts [g]=1:=by
   show wt g+0=1
   unfold wt
   rw [if_neg (by omega),if_neg (by omega)]
  have hf:wt f=2:=by unfold wt;rw [if_pos e]
  omega
 ·rcases h.told e with ⟨e1,e2,_⟩ | ⟨e1,_,e3⟩
  ·rw [e1,e2]
   show wts fr+0+_+1≤_
   omega
  ·rw [e1]
   cases hd:(qab d.cases i).fixed
   ·rw [hd,cond_false] at e3
    rw [e3]
    show wts fr+0+18+1≤wt f+wts fr+18
    omega
   ·rw [hd,cond_true] at e3
    have:=qvi (x:=qab d.cases i) (i:=i)
    have hl:=qj1 (x:=qab d.cases i) (i:=(i:Int)) 6 0
    have:=qvh (w:=3) (qby (qab d.cases i) i 6 0) fun g hg=>by
     unfold wt
     split
     ·omega
     ·split<;>omega
    rw [e3]
    show wts fr+wts _+0+1≤wt f+wts fr+18
    omega
 ·obtain ⟨e1,_,e3,e4,_⟩:=h.commit e
  have:=qvh (w:=1) sent fun g hg=>by
   unfold wt
   rcases e4 g hg with e' | e'
   ·rw [if_neg (by omega),if_neg (by omega)];exact Nat.le_refl _
   ·rw [if_neg (by omega),if_neg (by omega)];exact Nat.le_refl _
  have hf:wt f=3:=by unfold wt;rw [if_neg (by omega),if_pos e]
  rw [e1]
  omega
 ·obtain ⟨e1,e2,_⟩:=h.known e
  rw [e1,e2]
  show wts fr+0+_+1≤_
  omega
 ·obtain ⟨e1,e2,_⟩:=h.done e
  rw [e1,e2]
  show wts fr+0+_+1≤_
  omega
structure Rnd (c:GCluster) (i:Nat) (fr:List GFrame):Prop where
 open_:(qab c.cases i).fixed=false → ∀ k:Nat,k<6→qac (qab c.cases i).ops (ofZ k)=true→qam (qab c.cases i).told k=true ∨ ∃ f∈fr,f.node=(k:Int)∧(f.kind=1∨f.kind=2)
 fix_:(qab c.cases i).fixed=true → ∀ k:Nat,k<6→2≤(eat (dur c k).entries i).state ∨ ∃ f∈fr,f.node=(k:Int)∧f.kind=3
structure Rnd2 (c:GCluster) (i:Nat) (fr:List GFrame):Prop where
 fix:(qab c.cases i).fixed=true
 all : ∀ k:Nat,k<6→(eat (dur c k).entries i).state=3
 way : ∀ k:Nat,k<6→qbv (qab c.cases i) (ofZ k)=true ∨ ∃ f∈fr,f.node=(k:Int)∧(f.kind=3∨f.kind=5)
theorem qsz {x:GCase} {i k:Nat} (hk:k<6) {f:GFrame} (hf:f∈qdv x i k):f∈qby x i 6 0:=(qhj 6 0).2 ⟨k,Nat.zero_le _,by omega,hf⟩
theorem qvj {c:GCluster} (hl:Liv c) {i:Nat} (hi:i<32) (hf:(qab c.cases i).fixed=true) (k:Nat) (hk:k<6):2≤(eat (dur c k).entries i).state ∨ ∃ f∈qby (qab c.cases i) i 6 0,f.node=(k:Int)∧f.kind=3:=by
 cases hh:qam (qab c.cases i).known k
 ·refine .inr ⟨⟨3,k,i,(qab c.cases i).ops,(qab c.cases i).deps,[],[]⟩,qsz hk ?_,rfl,rfl⟩
  unfold qdv
  rw [hf,cond_true,hh]
  exact List.mem_cons_self
 ·exact .inl ((hl.cas i hi).known k hk hh)
theorem Rnd.start {c:GCluster} (hl:Liv c) {i:Nat} (hi:i<32):Rnd c i (qby (qab c.cases i) i 6 0):=by
 refine ⟨fun hf k hk ht => ?_,fun hf k hk=>qvj hl hi hf k hk⟩
 cases hh:qam (qab c.cases i).told k
 ·refine .inr ⟨⟨1,k,i,(qab c.cases i).ops,[],[],[]⟩,qsz hk ?_,rfl,.inl rfl⟩
  unfold qdv
  rw [hf,cond_false,ht,hh]
  exact List.mem_cons_self
 ·exact .inl rfl
theorem Rnd2.start {c:GCluster} {i:Nat} (hf:(qab c.cases i).fixed=true) (ha : ∀ k:Nat,k<6→(eat (dur c k).entries i).state=3):Rnd2 c i (qby (qab c.cases i) i 6 0):=by
 refine ⟨hf,ha,fun k hk => ?_⟩
 cases hh:qbv (qab c.cases i) (ofZ k)
 ·refine .inr ⟨⟨3,k,i,(qab c.cases i).ops,(qab c.cases i).deps,[],[]⟩,qsz hk ?_,rfl,.inl rfl⟩
  unfold qdv
  rw [hf,cond_true,hh,Bool.not_false,Bool.or_true]
  exact List.mem_cons_self
 ·exact .inl rfl
theorem Rnd.step {c d:GCluster} {i:Nat} (hi:i<32) {f:GFrame} {fr sent:List GFrame} (h:Rnd c i (f::fr)) (he:Eff c d i f sent) (hg:Grow c d) (hl:Liv d) (hkind:1≤f.kind∧f.kind≤5):Rnd d i (fr++sent):=by
 have hst : ∀ k,k<6→2≤(eat (dur c k).entries i).state→2≤(eat (dur d k).entries i).state:=fun k hk h=>by
  have:=((hg.durs k hk).ent i hi).state
  omega
 have hsame:(qab d.cases i).fixed=(qab c.cases i).fixed→(qab d.cases i).ops=(qab c.cases i).ops→(qab d.cases i).told=(qab c.cases i).told→(∀ k:Nat,f.node=(k:Int)→(f.kind=1∨f.kind=2)→(qab c.cases i).fixed=false→qac (qab c.cases i).ops (ofZ k)=true→qam (qab c.cases i).told k=true ∨ ∃ g∈sent,g.node=(k:Int)∧(g.kind=1∨g.kind=2)) →
   (∀ k:Nat,k<6→f.node=(k:Int)→f.kind=3→2≤(eat (dur d k).entries i).state)→Rnd d i (fr++sent):=fun e1 e2 e3 e4 e5=>by
  refine ⟨fun hf k hk ht => ?_,fun hf k hk => ?_⟩
  ·rw [e1] at hf
   rw [e2] at ht
   rw [e3]
   rcases h.open_ hf k hk ht with h1 | ⟨g,g1,g2,g3⟩
   ·exact .inl h1
   ·rcases List.mem_cons.1 g1 with e | g1
    ·subst e
     rcases e4 k g2 g3 hf ht with h1 | ⟨g',q1,q2⟩
     ·exact .inl h1
     ·exact .inr ⟨g',List.mem_append_right _ q1,q2⟩
    ·exact .inr ⟨g,List.mem_append_left _ g1,g2,g3⟩
  ·rw [e1] at hf
   rcases h.fix_ hf k hk with h1 | ⟨g,g1,g2,g3⟩
   ·exact .inl (hst k hk h1)
   ·rcases List.mem_cons.1 g1 with e | g1
    ·subst e
     exact .inl (e5 k hk g2 g3)
    ·exact .inr ⟨g,List.mem_append_left _ g1,g2,g3⟩
 have hkind:f.kind=1∨f.kind=2∨f.kind=3∨f.kind=4∨f.kind=5:=by omega
 rcases hkind with e | e | e | e | e
 ·obtain ⟨e1,g,e2,e3,e4⟩:=he.ask e
  refine hsame (by rw [e1]) (by rw [e1]) (by rw [e1]) (fun k hn _ _ _ => .inr ⟨g,by rw [e2];exact List.mem_cons_self,by rw [e4];exact hn,.inr e3⟩) fun k _ _ h3=>by omega
 ·rcases he.told e with ⟨e1,e2,e3⟩ | ⟨e1,e2,e3⟩
  ·refine hsame (by rw [e2]) (by rw [e2]) (by rw [e2]) (fun k hn _ hf ht => ?_) fun k _ _ h3=>by omega
   rw [hn,Int.toNat_natCast] at e3
   rcases e3 with e3 | e3 | e3
   ·rw [hf] at e3;cases e3
   ·exact .inl e3
   ·rw [ht] at e3;cases e3
  ·have eo:(qab d.cases i).ops=(qab c.cases i).ops:=by rw [e2];rfl
   refine ⟨fun hf k hk ht => ?_,fun hf k hk => ?_⟩
   ·rw [eo] at ht
    have etold:(qab d.cases i).told=(qab c.cases i).told.setIfInBounds f.node.toNat true:=by rw [e2];rfl
    have hset:qam (qab c.cases i).told k=true∨f.node=(k:Int)→qam (qab d.cases i).told k=true:=fun h=>by
     rw [etold]
     rcases h with h | h
     ·by_cases hlt:f.node.toNat<6
      ·rw [qgk hlt]
       by_cases e':f.node.toNat=k
       ·rw [if_pos e']
       ·rw [if_neg e'];exact h
      ·rw [Vector.setIfInBounds_eq_of_size_le (by omega)]
       exact h
     ·rw [h,Int.toNat_natCast,qgk hk,if_pos rfl]
    rcases h.open_ e1 k hk ht with h1 | ⟨g,g1,g2,g3⟩
    ·exact .inl (hset (.inl h1))
    ·rcases List.mem_cons.1 g1 with e' | g1
     ·subst e';exact .inl (hset (.inr g2))
     ·exact .inr ⟨g,List.mem_append_left _ g1,g2,g3⟩
   ·rw [hf,cond_true] at e3
    rcases qvj hl hi hf k hk with h1 | ⟨g,g1,g2⟩
    ·exact .inl h1
    ·exact .inr ⟨g,List.mem_append_right _ (by rw [e3];exact g1),g2⟩
 ·obtain ⟨e1,e2,_⟩:=he.commit e
  refine hsame (by rw [e1]) (by rw [e1]) (by rw [e1]) (fun k _ h1 _ _=>by omega) fun k _ hn _ => ?_
  rw [hn,Int.toNat_natCast] at e2
  exact e2
 ·obtain ⟨_,e2,e3,e4,_⟩:=he.known e
  exact hsame e2 e3 e4 (fun k _ h1 _ _=>by omega) fun k _ _ h3=>by omega
 ·obtain ⟨_,e2,e3,e4,_⟩:=he.done e
  exact hsame e2 e3 e4 (fun k _ h1 _ _=>by omega) fun k _ _ h3=>by omega
theorem qz8 {x y:GCase} (ho:y.ops=x.ops) (hh : ∀ k,qam x.has k=true→qam y.has k=true) {s:Int} (h:qbv x s=true):qbv y s=true:=by
 unfold qbv at h ⊢
 rw [ho]
 refine qp9 _ 0 fun j o hj hs => ?_
 have:=qve x.ops 0 h j o hj hs
 exact hh _ this
theorem Rnd2.step {c d:GCluster} {i:Nat} (hi:i<32) {f:GFrame} {fr sent:List GFrame} (h:Rnd2 c i (f::fr)) (he:Eff c d i f sent) (hg:Grow c d) (hkind:1≤f.kind∧f.kind≤5):Rnd2 d i (fr++sent):=by
 have hall : ∀ k:Nat,k<6→(eat (dur d k).entries i).state=3:=fun k hk=>by
  have:=h.all k hk
  rw [← ((hg.durs k hk).ent i hi).done this]
  exact this
 have hsame:(qab d.cases i).fixed=(qab c.cases i).fixed→(qab d.cases i).ops=(qab c.cases i).ops→(∀ k,qam (qab c.cases i).has k=true→qam (qab d.cases i).has k=true)→(∀ k:Nat,k<6→f.node=(k:Int)→(f.kind=3∨f.kind=5)→qbv (qab d.cases i) (ofZ k)=true ∨ ∃ g∈sent,g.node=(k:Int)∧(g.kind=3∨g.kind=5))→Rnd2 d i (fr++sent):=fun e1 e2 e3 e4=>by
  refine ⟨by rw [e1];exact h.fix,hall,fun k hk => ?_⟩
  rcases h.way k hk with h1 | ⟨g,g1,g2,g3⟩
  ·exact .inl (qz8 e2 e3 h1)
  ·rcases List.mem_cons.1 g1 with e | g1
   ·subst e
    rcases e4 k hk g2 g3 with h1 | ⟨g',q1,q2⟩
    ·exact .inl h1
    ·exact .inr ⟨g',List.mem_append_right _ q1,q2⟩
   ·exact .inr ⟨g,List.mem_append_left _ g1,g2,g3⟩
 have hkind:f.kind=1∨f.kind=2∨f.kind=3∨f.kind=4∨f.kind=5:=by omega
 rcases hkind with e | e | e | e | e
 ·obtain ⟨e1,_⟩:=he.ask e
  exact hsame (by rw [e1]) (by rw [e1]) (fun k hh=>by rw [e1];exact hh) fun k _ _ h3=>by omega
 ·rcases he.told e with ⟨_,e2,_⟩ | ⟨e1,_⟩
  ·exact hsame (by rw [e2]) (by rw [e2]) (fun k hh=>by rw [e2];exact hh) fun k _ _ h3=>by omega
  ·rw [h.fix] at e1;cases e1
 ·obtain ⟨e1,e2,_,_,e5⟩:=he.commit e
  refine hsame (by rw [e1]) (by rw [e1]) (fun k hh=>by rw [e1];exact hh) fun k hk hn _ => ?_
  cases ht:qac (qab c.cases i).ops (ofZ k)
  ·refine .inl ?_
   rw [e1]
   exact qpu _ _ ht
  ·rw [hn,Int.toNat_natCast] at e5
   obtain ⟨g,g1,g2,g3⟩:=e5 (hall k hk) ht
   exact .inr ⟨g,g1,g3,.inr g2⟩
 ·obtain ⟨_,e2,e3,_,e5⟩:=he.known e
  exact hsame e2 e3 (fun k hh=>by rw [e5];exact hh) fun k _ _ h3=>by omega
 ·obtain ⟨_,e2,e3,_,e5,e6⟩:=he.done e
  refine hsame e2 e3 e5 fun k _ hn _ => .inl ?_
  have:=e6 h.fix
  rw [hn] at this
  exact this
def Fin1 (c:GCluster) (i:Nat):Prop:=(qab c.cases i).fixed=true ∧ ∀ k:Nat,k<6→2≤(eat (dur c k).entries i).state
theorem Rnd.fin {c:GCluster} (hl:Liv c) {i:Nat} (hi:i<32) (hb:(qab c.cases i).begun=true) (h:Rnd c i []):Fin1 c i:=by
 have hf:(qab c.cases i).fixed=true:=by
  cases hf:(qab c.cases i).fixed
  ·have ht : ∀ k:Nat,k<6→qac (qab c.cases i).ops (ofZ k)=true→qam (qab c.cases i).told k=true:=fun k hk ht=>by
    rcases h.open_ hf k hk ht with h1 | ⟨g,g1,_⟩
    ·exact h1
    ·exact absurd g1 List.not_mem_nil
   have he:qcb (qab c.cases i)=true:=by
    unfold qcb qob
    rw [Bool.and_eq_true]
    refine ⟨?_,?_⟩
    ·cases h0:qac (qab c.cases i).ops 0
     ·rfl
     ·rw [ht 0 (by omega) h0,ht 1 (by omega) h0,ht 2 (by omega) h0]
      rfl
    ·cases h0:qac (qab c.cases i).ops 1
     ·rfl
     ·have e4:qam (qab c.cases i).told (3+1)=true:=ht 4 (by omega) h0
      have e5:qam (qab c.cases i).told (3+2)=true:=ht 5 (by omega) h0
      rw [ht 3 (by omega) h0,e4,e5]
      rfl
   rw [(hl.cas i hi).full hb he] at hf
   cases hf
  ·rfl
 refine ⟨hf,fun k hk => ?_⟩
 rcases h.fix_ hf k hk with h1 | ⟨g,g1,_⟩
 ·exact h1
 ·exact absurd g1 List.not_mem_nil
theorem Rnd2.fin {c:GCluster} {net:List ByteArray} {b:Nat} (hp:PInv c net b) {i:Nat} (hi:i<32) (h:Rnd2 c i []):(qct (qab c.cases i)).2=true:=by
 have hw : ∀ k:Nat,k<6→qbv (qab c.cases i) (ofZ k)=true:=fun k hk=>by
  rcases h.way k hk with h1 | ⟨g,g1,_⟩
  ·exact h1
  ·exact absurd g1 List.not_mem_nil
 have hg:=hp.inv.cas i hi
 have h0:qbv (qab c.cases i) 0=true:=hw 0 (by omega)
 have h1:qbv (qab c.cases i) 1=true:=hw 3 (by omega)
 unfold qct
 rw [qk2 hg h.fix,hg,h0,h1]
 rfl
theorem Fin1.grow {c d:GCluster} (hg:Grow c d) {i:Nat} (hi:i<32) (hb:(qab c.cases i).begun=true) (h:Fin1 c i):Fin1 d i:=by
 refine ⟨((hg.cas i hi hb).2.2 h.1).1,fun k hk => ?_⟩
 have h1:=h.2 k hk
 have:=((hg.durs k hk).ent i hi).state
 omega
end Go.Proofs.Yteilffoclpgijaa
namespace Go.Proofs.Yteilffoclpgijaa
open Go.RowKit
open Rep (rep)
theorem qgl {fu:Nat} (hfu:70000≤fu) {c:GCluster} {net:List ByteArray} (h:CInv c net) {a:GAct}:qfn fu a c net=some ((qfq c net a).1.code,(qfq c net a).2.1,(qfq c net a).2.2):=by
 unfold qfn
 rw [qye hfu h,qaa]
def Keep (c d:GCluster):Prop := ∀ j,j<32→(qab c.cases j).begun=true→(qab d.cases j).begun=true∧(Fin1 c j→Fin1 d j)
theorem Keep.of {c d:GCluster} (hg:Grow c d):Keep c d:=fun j hj hb=>⟨(hg.cas j hj hb).1,fun h=>h.grow hg hj hb⟩
theorem Keep.trans {c d e:GCluster} (h:Keep c d) (k:Keep d e):Keep c e:=fun j hj hb=>by
 obtain ⟨h1,h2⟩:=h j hj hb
 obtain ⟨k1,k2⟩:=k j hj h1
 exact ⟨k1,fun hf=>k2 (h2 hf)⟩
theorem qid {fu:Nat} (hfu:70000≤fu) {i:Nat} (hi:i<32) {y:Int} {rec:GCluster→List ByteArray→Int→Option Bool} : ∀ (n m:Nat) (c:GCluster) (net:List ByteArray) (fr:List GFrame),m<n→pot (qab c.cases i) fr≤m→m≤30→Up c net→Nf i net fr→Rnd c i fr→c.acts+m≤400 →
  ∃ d,qb2 fu y rec n c net=rec d [] (IntKind.wrap .i64 (y+1))∧Up d []∧d.acts≤c.acts+m∧d.begun=c.begun∧Keep c d∧(∀ j,j≠i→qab d.cases j=qab c.cases j)∧Rnd d i []∧(Rnd2 c i fr→Rnd2 d i [])
 | 0,m,_,_,_,h,_,_,_,_,_,_=>absurd h (by omega)
 | n+1,m,c,net,[],_,_,_,h,hn,hr,_=>by
  have e:net=[]:=hn.eq
  subst e
  refine ⟨c,?_,h,by omega,rfl,fun j _ hb=>⟨hb,id⟩,fun _ _=>rfl,hr,id⟩
  rw [qb2,qmc h.inv.inv,qaa,qad (qae (by show ¬ ((0:Nat):Int)>0;omega))]
 | n+1,m,c,net,f::fr,hmn,hpot,hm,h,hn,hr,ha=>by
  have hw:=q3j (f::fr)
  have hp1:wts (f::fr)≤pot (qab c.cases i) (f::fr):=Nat.le_add_right _ _
  simp only [List.length_cons] at hw
  obtain ⟨m',rfl⟩ : ∃ m',m=m'+1:=⟨m-1,by omega⟩
  have hkr:=(qa6 (hn.good f List.mem_cons_self).1).1
  obtain ⟨r,d,net',e1,e2,e3,e4,e5,e6,e7,sent,e8,e9⟩:=h.deliver (by omega) hi hn (by omega)
  have hpot':=e9.pot (fr:=fr) hkr
  obtain ⟨d',q1,q2,q3,q4,q5,q6,q7,q8⟩:=qid hfu hi (y:=y) (rec:=rec) n m' d net' (fr++sent) (by omega) (by omega) (by omega) e3 e8 (hr.step hi e9 e6 e3.liv hkr) (by omega)
  refine ⟨d',?_,q2,by omega,q4.trans e5,(Keep.of e6).trans q5,fun j hj=>(q6 j hj).trans (e7 j hj),q7,fun h2=>q8 (h2.step hi e9 e6 hkr)⟩
  have hnl:0<net.length:=by rw [hn.eq];unfold qyo;simp
  have ea:({ kind:=2,n:=Zr.zd,m:=Zr.zd,ops:=Zr.zd }:GAct)=dlv:=rfl
  rw [qb2,qmc h.inv.inv,qaa,qaj (qaf (by dsimp only;omega)),qaa,ea,qgl hfu h.inv.inv,qaa,e1,qad (show ((r,d,net').1.code==5)=false from beq_false_of_ne e2)]
  exact q1
def agn (i:Nat):GAct:={ kind:=5,n:=i,m:=0,ops:=[] }
theorem Up.again {c:GCluster} (h:Up c []) (ha:c.acts<400) {i:Nat} (hi:i<32) (hb:(i:Int)<c.begun) : ∃ r d net',qfq c [] (agn i)=(r,d,net')∧Up d net'∧d.acts=c.acts+1∧d.begun=c.begun∧d.cases=c.cases∧(∀ k,dur d k=dur c k)∧Keep c d∧Nf i net' (qby (qab c.cases i) i 6 0):=by
 have ha0:=h.inv.inv.acts.1
 have hbg:(qab c.cases i).begun=true:=by rw [h.inv.cnt i hi,decide_eq_true_eq];exact hb
 obtain ⟨hs,hd⟩:=h.inv.sends_ok hi hbg
 have hg:=h.inv.inv.cas i hi
 obtain ⟨hg0,hp0⟩:=h.inv.actG (by omega) (a:=agn i)
 have hl0:=h.inv.liv (by omega) h.liv (a:=agn i)
 have hact:qfq c [] (agn i)=(qw2 { c with acts:=c.acts+1 } i,{ c with acts:=c.acts+1 },qgj [] (qby (qab c.cases i) i 6 0)):=by
  unfold qfq
  rw [qad (qae (by omega))]
  show q2p { c with acts:=c.acts+1 } [] (agn i)=_
  unfold q2p
  rw [qaj (qaf (by show (0:Int)≤(i:Int)∧(i:Int)<c.begun;omega))]
  have:qe9 (qab c.cases i) i=qby (qab c.cases i) i 6 0:=by
   unfold qe9
   rw [hs,cond_true]
  rw [← this]
  rfl
 rw [hact] at hg0 hp0 hl0
 refine ⟨_,_,_,hact,⟨?_,hl0,h.up,h.tear⟩,rfl,rfl,rfl,fun _=>rfl,Keep.of hg0,?_⟩
 ·exact hp0.mono (by show _≤15300+102*(c.acts+1).toNat;omega)
 ·refine (Nf.mk (i:=i) (net:=[]) (fr:=[]) rfl fun f hf=>absurd hf List.not_mem_nil).send (fun f hf => ?_) (by have:=qj1 (x:=qab c.cases i) (i:=(i:Int)) 6 0;simp only [List.length_nil];omega)
  obtain ⟨k,_,k2,k3⟩:=(qhj 6 0).1 hf
  exact ⟨qrw hg hbg hi (by omega) hd f k3,(qmf k3).1⟩
def Knw (c:GCluster) (i:Nat):Prop:=(qct (qab c.cases i)).2=true
theorem qfg {fu:Nat} (hfu:fu=70000) {g:Nat} (hg3:g≤3) {y:Int} {rec:GCluster→List ByteArray→Int→Option Bool} : ∀ (n m k:Nat) (c:GCluster),k+m=g→m<n→Up c []→c.begun=(g:Int)→c.acts+31*(m:Int)≤400→(∀ j,j<k→Fin1 c j) →
  ∃ d,qbg fu g y rec n c [] k=rec d [] (IntKind.wrap .i64 (y+1))∧Up d []∧d.begun=(g:Int)∧d.acts≤c.acts+31*(m:Int)∧(∀ j,j<g→Fin1 d j)∧((∀ j,j<g→Fin1 c j)→(∀ j,j<k→Knw c j) → ∀ j,j<g→Knw d j)
 | 0,m,k,c,_,h,_,_,_,_=>absurd h (by omega)
 | n+1,0,k,c,hk,_,h,hb,_,hf=>by
  have:k=g:=by omega
  subst this
  refine ⟨c,?_,h,hb,by omega,hf,fun _ hkn=>hkn⟩
  rw [qbg,qad (qae (by omega))]
 | n+1,m+1,k,c,hk,hn,h,hb,ha,hf=>by
  have hk32:k<32:=by omega
  have ha0:=h.inv.inv.acts.1
  obtain ⟨r,d,net',e1,e2,e3,e4,e5,e6,e7,e8⟩:=h.again (by omega) hk32 (by omega)
  have hcas:qab d.cases k=qab c.cases k:=by rw [e5]
  rw [← hcas] at e8
  have hpot:=qvi (x:=qab d.cases k) (i:=k)
  obtain ⟨d',q1,q2,q3,q4,q5,q6,q7,q8⟩:=qid (fu:=fu) (by omega) hk32 (y:=(k:Int)) (rec:=qbg fu g y rec n) fu 30 d net' _ (by omega) hpot (Nat.le_refl _) e2 e8 (Rnd.start e2.liv hk32) (by omega)
  have hbg : ∀ j,j<g→(qab c.cases j).begun=true:=fun j hj=>by
   rw [h.inv.cnt j (by omega),hb,decide_eq_true_eq]
   omega
  have hbd:(qab d'.cases k).begun=true:=(((e7.trans q5) k hk32) (hbg k (by omega))).1
  have hfin:=q7.fin q2.liv hk32 hbd
  have hkeep : ∀ j,j<g→Fin1 c j→Fin1 d' j:=fun j hj hh=>(((e7.trans q5) j (by omega)) (hbg j hj)).2 hh
  obtain ⟨d2,p1,p2,p3,p4,p5,p6⟩:=qfg hfu hg3 (y:=y) (rec:=rec) n m (k+1) d' (by omega) (by omega) q2 (by rw [q4,e4,hb]) (by omega) fun j hj=>by
   by_cases e:j=k
   ·subst e;exact hfin
   ·exact hkeep j (by omega) (hf j (by omega))
  refine ⟨d2,?_,p2,p3,by omega,p5,fun hall hkn=>p6 (fun j hj=>hkeep j hj (hall j hj)) fun j hj => ?_⟩
  ·have ea:({ kind:=5,n:=(k:Int),m:=Zr.zd,ops:=Zr.zd }:GAct)=agn k:=rfl
   rw [qbg,qaj (qaf (by omega)),qaa,ea,qgl (by omega) h.inv.inv,qaa,e1]
   refine Eq.trans q1 ?_
   rw [wrs k (by omega)]
   exact p1
  ·by_cases e:j=k
   ·subst e
    have hst : ∀ k':Nat,k'<6→(eat (dur d k').entries j).state=3:=fun k' hk'=>by
     rw [e6]
     refine h.inv.all_done hk' (fun i hi hbi => ?_) j hk32 (hbg j (by omega))
     have hig:i<g:=by
      rw [h.inv.cnt i hi,hb,decide_eq_true_eq] at hbi
      omega
     exact (hall i hig).2 k' hk'
    exact (q8 (Rnd2.start (by rw [hcas];exact (hall j (by omega)).1) hst)).fin q2.inv hk32
   ·unfold Knw
    rw [q6 j e,e5]
    exact hkn j (by omega)
theorem qqa {sh x:Int} (h0:0≤x) (hs:qas x≠sh) : ∀ (l:List GOp) (i:Nat) (v:Vector Int 8) (a b:List Int),KeyOk l→vat (qdf sh i l v a b).1 x.toNat=vat v x.toNat
 | [],_,_,_,_,_=>rfl
 | o::t,i,v,a,b,hk=>by
  have ho:=hk o List.mem_cons_self
  have ih:=fun v a b=>qqa h0 hs t (i+1) v a b fun y hy=>hk y (List.mem_cons_of_mem _ hy)
  rw [qdf]
  cases h:(qas o.key==sh)
  ·rw [cond_false,ih]
  ·rw [cond_true,ih,qso (by omega),if_neg]
   intro e
   have e:o.key=x:=by omega
   rw [e] at h
   exact hs (by simpa using h)
theorem qm2 {sh x:Int} (h0:0≤x) (hs:qas x≠sh) {E:Vector GEntry 32} : ∀ (l:List Int) (v:Vector Int 8),(∀ n∈l,KeyOk (eat E n.toNat).ops)→vat (qvn sh E l v) x.toNat=vat v x.toNat
 | [],_,_=>rfl
 | n::t,v,h=>by
  rw [qvn,qm2 h0 hs t _ fun m hm=>h m (List.mem_cons_of_mem _ hm),qqa h0 hs _ _ _ _ _ (h n List.mem_cons_self)]
theorem q64 {v u:Vector Int 8} (h : ∀ k,k<8→vat v k=vat u k):v=u:=by
 refine Vector.ext fun k hk => ?_
 have:=h k hk
 simpa [vat,hk] using this
theorem PInv.alike {c:GCluster} {net:List ByteArray} {b:Nat} (h:PInv c net b) {k k':Nat} (hk:k<6) (hk':k'<6) (he:ofZ k'=ofZ k) (hall : ∀ i,i<32→(qab c.cases i).begun=true→(eat (dur c k).entries i).state=3∧(eat (dur c k').entries i).state=3):(dur c k).values=(dur c k').values:=by
 have hg:=qcf c k
 have hg':=qcf c k'
 have hp:=h.node k hk
 have hp':=h.node k' hk'
 have hkey : ∀ (d:Nat),d<6 → ∀ n∈(dur c d).order,KeyOk (eat (dur c d).entries n.toNat).ops:=fun d _ n hn=>by
  have hr:=(qcf c d).inr n hn
  have h3:=((qcf c d).done (k:=n.toNat) (by omega)).2 (by rw [Int.toNat_of_nonneg hr.1];exact hn)
  exact KeyOk.of ((qcf c d).body (by omega) (by omega)).ops
 have hops : ∀ (d:Nat),d<6 → ∀ n∈(dur c d).order,(eat (dur c d).entries n.toNat).ops=opsC c n:=fun d hd n hn =>
  ((h.node d hd).order_fix (qcf c d) (n:=n.toNat) (by rw [Int.toNat_of_nonneg ((qcf c d).inr n hn).1];exact hn)).2.2.2
 have hmem : ∀ x,x∈(dur c k).order↔x∈(dur c k').order:=fun x=>by
  constructor
  ·intro hx
   have h0:=hg.inr x hx
   have e:=Int.toNat_of_nonneg h0.1
   have hb:=(hp.order_fix hg (n:=x.toNat) (by rw [e];exact hx)).2.2.1
   have:=(hg'.done (k:=x.toNat) (by omega)).1 (hall x.toNat (by omega) hb).2
   rwa [e] at this
  ·intro hx
   have h0:=hg'.inr x hx
   have e:=Int.toNat_of_nonneg h0.1
   have hb:=(hp'.order_fix hg' (n:=x.toNat) (by rw [e];exact hx)).2.2.1
   have:=(hg.done (k:=x.toNat) (by omega)).1 (hall x.toNat (by omega) hb).1
   rwa [e] at this
 refine q64 fun x hx => ?_
 have h1:=(qoe c k).now
 have h2:=(qoe c k').now
 rw [he] at h2
 rw [h1,h2]
 by_cases hs:qas (x:Int)=ofZ k
 ·have r1:=qof (x:=(x:Int)) (by omega) (by omega) hs (E:=(dur c k).entries) (dur c k).order Zr.zd (hkey k hk)
  have r2:=qof (x:=(x:Int)) (by omega) (by omega) hs (E:=(dur c k').entries) (dur c k').order Zr.zd (hkey k' hk')
  rw [Int.toNat_natCast] at r1 r2
  rw [r1,r2,qyl,qm0 _ 0 (hops k hk),qm0 _ 0 (hops k' hk'),qh7 _ 0 (by decide),qh7 (dur c k').order 0 (by decide)]
  refine congrArg (fun l=>q0d (x:Int) (opsC c) l 0) ?_
  refine q24 _ _ (hg.nodup.filter _) (hg'.nodup.filter _) (fun z => ?_) ((hp.ord hg).pw.filter _) ((hp'.ord hg').pw.filter _) fun a b ha hb hab q1 q2 => ?_
  ·rw [List.mem_filter,List.mem_filter,hmem]
  ·obtain ⟨a1,a2⟩:=List.mem_filter.1 ha
   obtain ⟨b1,b2⟩:=List.mem_filter.1 hb
   have a0:=hg.inr a a1
   have b0:=hg.inr b b1
   have fa:=(hp.order_fix hg (n:=a.toNat) (by rw [Int.toNat_of_nonneg a0.1];exact a1)).2.1
   have fb:=(hp.order_fix hg (n:=b.toNat) (by rw [Int.toNat_of_nonneg b0.1];exact b1)).2.1
   obtain ⟨u,hu,hku⟩:=List.any_eq_true.1 a2
   simp only [Bool.and_eq_true,beq_iff_eq] at hku
   exact Rb.two q1 q2 (h.cmp (i:=a.toNat) (j:=b.toNat) (by omega) (by omega) (by omega) fa fb hu hku.1 b2)
 ·have r1:=qm2 (x:=(x:Int)) (by omega) hs (E:=(dur c k).entries) (dur c k).order Zr.zd (hkey k hk)
  have r2:=qm2 (x:=(x:Int)) (by omega) hs (E:=(dur c k').entries) (dur c k').order Zr.zd (hkey k' hk')
  rw [Int.toNat_natCast] at r1 r2
  rw [r1,r2]
theorem qie {fu:Nat} (hfu:1100≤fu) {c:GCluster} {net:List ByteArray} (h:Up c net) (hall : ∀ k:Nat,k<6 → ∀ i,i<32→(qab c.cases i).begun=true→(eat (dur c k).entries i).state=3) : ∀ (n m k:Nat),k+m=6→m<n→qb4 fu n c net k=some true
 | 0,m,k,_,hh=>absurd hh (by omega)
 | n+1,0,k,hk,_=>by rw [qb4,qad (qae (by omega))]
 | n+1,m+1,k,hk,hn=>by
  have hk6:k<6:=by omega
  have ih:=qie hfu h hall n m (k+1) (by omega) (by omega)
  have hdiv:IntKind.wrap .i64 ((IntKind.wrap .i64 (Int.tdiv (k:Int) 3))*3)=((k / 3*3:Nat):Int):=by
   have:k=0∨k=1∨k=2∨k=3∨k=4∨k=5:=by omega
   rcases this with e | e | e | e | e | e<;>subst e<;>rfl
  have hk0:k / 3*3<6:=by omega
  have hof:ofZ ((k / 3*3:Nat):Int)=ofZ (k:Int):=by
   unfold ofZ
   by_cases h3:k<3
   ·rw [if_pos (by omega),if_pos (by omega)]
   ·rw [if_neg (by omega),if_neg (by omega)]
  have hv:=h.inv.alike hk6 hk0 hof fun i hi hb=>⟨hall k hk6 i hi hb,hall _ hk0 i hi hb⟩
  rw [qb4,qaj (qaf (by omega)),qmw (by omega) h.inv.inv (by omega) (by omega),qaa,qaa,hdiv,qmw (by omega) h.inv.inv (by omega) (by omega),qaa,qaa,Int.toNat_natCast,Int.toNat_natCast]
  dsimp only
  rw [(h.inv.up k hk6 (h.up k hk6)).1,(h.inv.up _ hk0 (h.up _ hk0)).1,qaf hv,qad (by rfl),wrs k (by omega)]
  exact ih
theorem qif {fu:Nat} (hfu:1100≤fu) {c:GCluster} {net:List ByteArray} (h:Up c net) {i:Nat} (hi:i<32) (hall : ∀ k:Nat,k<6→(eat (dur c k).entries i).state=3) {rec:GCluster→List ByteArray→Int→Option Bool} : ∀ (n m k:Nat),k+m=6→m<n→qb3 fu i rec n c net k=rec c net (IntKind.wrap .i64 ((i:Int)+1))
 | 0,m,k,_,hh=>absurd hh (by omega)
 | n+1,0,k,hk,_=>by rw [qb3,qad (qae (by omega))]
 | n+1,m+1,k,hk,hn=>by
  have hk6:k<6:=by omega
  have ih:=qif hfu h hi hall (rec:=rec) n m (k+1) (by omega) (by omega)
  rw [qb3,qaj (qaf (by omega)),qmw (by omega) h.inv.inv (by omega) (by omega),qaa,qaa,qa4 (by omega) (by omega),qaa,qwq hi,qaa,Int.toNat_natCast]
  dsimp only
  rw [(h.inv.up k hk6 (h.up k hk6)).1,hall k hk6,qad (by rfl),wrs k (by omega)]
  exact ih
theorem qig {fu:Nat} (hfu:1100≤fu) {c:GCluster} {net:List ByteArray} (h:Up c net) {g:Nat} (hg3:g≤3) (hb:c.begun=(g:Int)) (hkn : ∀ j,j<g→Knw c j) (hall : ∀ k:Nat,k<6 → ∀ i,i<32→(qab c.cases i).begun=true→(eat (dur c k).entries i).state=3) : ∀ (n m i:Nat),i+m=g→m<n→qbh fu g n c net i=some true
 | 0,m,i,_,hh=>absurd hh (by omega)
 | n+1,0,i,hi,_=>by
  rw [qbh,qad (qae (by omega))]
  exact qie hfu h hall fu 6 0 (by omega) (by omega)
 | n+1,m+1,i,hi,hn=>by
  have hi32:i<32:=by omega
  have ih:=qig hfu h hg3 hb hkn hall n m (i+1) (by omega) (by omega)
  have hbi:(qab c.cases i).begun=true:=by
   rw [h.inv.cnt i hi32,hb,decide_eq_true_eq]
   omega
  have hk:(qct (qab c.cases i)).2=true:=hkn i (by omega)
  rw [qbh,qaj (qaf (by omega)),qmx h.inv.inv (by omega) (by omega),qaa,qkc (by omega),qaa,Int.toNat_natCast,hk,qad (c := !true) rfl]
  refine Eq.trans (qif hfu h hi32 (fun k hk=>hall k hk i hi32 hbi) (rec:=qbh fu g n) fu 6 0 (by omega) (by omega)) ?_
  rw [wrs i (by omega)]
  exact ih
theorem qnx {fu:Nat} (hfu:fu=70000) {c:GCluster} (h:Up c []) {g:Nat} (hg3:g≤3) (hb:c.begun=(g:Int)) (ha:c.acts≤140):qao fu g fu c [] 0=some true:=by
 have ha0:=h.inv.inv.acts.1
 obtain ⟨f1,hf1⟩ : ∃ f1,fu=f1+3:=⟨fu-3,by omega⟩
 have w1:IntKind.wrap .i64 (0+1)=1:=by rw [qds (by omega) (by omega)];rfl
 have w2:IntKind.wrap .i64 (1+1)=2:=by rw [qds (by omega) (by omega)];rfl
 have hl4 : ∀ n (d:GCluster) (y:Int),qao fu g (n+1) d [] y=bif decide (y<2) then qbg fu g y (qao fu g n) fu d [] 0 else qbh fu g fu d [] 0:=fun _ _ _=>by rw [qao]
 obtain ⟨d,e1,e2,e3,e4,e5,_⟩:=qfg hfu hg3 (y:=0) (rec:=qao fu g (f1+2)) fu g 0 c (by omega) (by omega) h hb (by omega) fun j hj=>absurd hj (by omega)
 obtain ⟨d2,p1,p2,p3,p4,p5,p6⟩:=qfg hfu hg3 (y:=1) (rec:=qao fu g (f1+1)) fu g 0 d (by omega) (by omega) e2 e3 (by omega) fun j hj=>absurd hj (by omega)
 have hkn:=p6 e5 fun j hj=>absurd hj (by omega)
 have hall : ∀ k:Nat,k<6 → ∀ i,i<32→(qab d2.cases i).begun=true→(eat (dur d2 k).entries i).state=3:=fun k hk=>p2.inv.all_done hk fun i hi hbi=>by
  rw [p2.inv.cnt i hi,p3,decide_eq_true_eq] at hbi
  exact (p5 i (by omega)).2 k hk
 have s0:qao fu g (f1+3) c [] 0=qao fu g (f1+2) d [] 1:=by
  rw [hl4,qaj (by rfl)]
  exact e1.trans (by rw [w1])
 have s1:qao fu g (f1+2) d [] 1=qao fu g (f1+1) d2 [] 2:=by
  rw [hl4,qaj (by rfl)]
  exact p1.trans (by rw [w2])
 have s2:qao fu g (f1+1) d2 [] 2=some true:=by
  rw [hl4,qad (by rfl)]
  exact qig (by omega) p2 hg3 p3 hkn hall fu g 0 (by omega) (by omega)
 have:qao fu g fu c [] 0=qao fu g (f1+3) c [] 0:=congrArg (fun z=>qao fu g z c [] 0) hf1
 rw [this,s0,s1,s2]
def drp:GAct:={ kind:=4,n:=0,m:=0,ops:=[] }
theorem Up.drop {c:GCluster} {s:ByteArray} {net:List ByteArray} (h:Up c (s::net)) (ha:c.acts<400) : ∃ r d,qfq c (s::net) drp=(r,d,net)∧r.code=0∧Up d net∧d.acts=c.acts+1∧d.begun=c.begun:=by
 have ha0:=h.inv.inv.acts.1
 obtain ⟨hg0,hp0⟩:=h.inv.actG (by omega) (a:=drp)
 have hl0:=h.inv.liv (by omega) h.liv (a:=drp)
 have hact : ∃ r,r.code=0∧qfq c (s::net) drp=(r,{ c with acts:=c.acts+1 },net):=by
  unfold qfq
  rw [qad (qae (by omega))]
  show ∃ r,_∧ql7 { c with acts:=c.acts+1 } (s::net) drp=_
  unfold ql7
  rw [qaj (qaf (by show (0:Int)≤0∧(0:Int)<((net.length+1:Nat):Int);omega))]
  exact ⟨_,rfl,rfl⟩
 obtain ⟨r,hr,hact⟩:=hact
 rw [hact] at hg0 hp0 hl0
 exact ⟨r,_,hact,hr,⟨hp0.mono (by show _≤15300+102*(c.acts+1).toNat;omega),hl0,h.up,h.tear⟩,rfl,rfl⟩
theorem qih {fu:Nat} (hfu:fu=70000) {g:Nat} (hg3:g≤3) : ∀ (n:Nat) (net:List ByteArray) (c:GCluster),net.length<n→Up c net→c.begun=(g:Int)→c.acts+net.length≤140→qb5 fu g n c net=some true
 | 0,_,_,h,_,_,_=>absurd h (by omega)
 | n+1,[],c,_,h,hb,ha=>by
  rw [qb5,qmc h.inv.inv,qaa,qad (qae (by show ¬ ((0:Nat):Int)>0;omega))]
  exact qnx hfu h hg3 hb (by simpa using ha)
 | n+1,s::net,c,hn,h,hb,ha=>by
  simp only [List.length_cons] at hn ha
  obtain ⟨r,d,e1,e2,e3,e4,e5⟩:=h.drop (by omega)
  have ea:({ kind:=4,n:=Zr.zd,m:=Zr.zd,ops:=Zr.zd }:GAct)=drp:=rfl
  rw [qb5,qmc h.inv.inv,qaa,qaj (qaf (by show ((net.length+1:Nat):Int)>0;omega)),qaa,ea,qgl (by omega) h.inv.inv,qaa,e1]
  dsimp only
  rw [e2,qad (by rfl)]
  exact qih hfu hg3 n net d (by omega) e3 (e5.trans hb) (by omega)
structure Sane (c:GCluster) (net:List ByteArray):Prop where
 inv:PInv c net (15300+102*c.acts.toNat)
 liv:Liv c
theorem qvk {c:GCluster} {net:List ByteArray} (ha:c.acts<400) {k:Nat} (hk:k<6) (hd:qab c.down k=true):qfq c net { kind:=6,n:=k,m:=0,ops:=[] }=(ql3 6,{ c with acts:=c.acts+1 },net):=by
 unfold qfq
 rw [qad (qae (by omega))]
 show qql { c with acts:=c.acts+1 } net { kind:=6,n:=k,m:=0,ops:=[] }=_
 unfold qql ql9
 rw [qaj (by rw [qaf (show (0:Int)≤k∧(k:Int)<6 by omega)];rfl)]
 rw [Int.toNat_natCast,hd]
 rfl
theorem Sane.crash {c:GCluster} {net:List ByteArray} (h:Sane c net) (ha:c.acts<400) {k:Nat} (hk:k<6) : ∃ r d,qfq c net { kind:=6,n:=k,m:=0,ops:=[] }=(r,d,net)∧Sane d net∧d.acts=c.acts+1∧d.begun=c.begun∧qab d.down k=true ∧ ∀ j,j≠k→qab d.down j=qab c.down j∧qab d.tear j=qab c.tear j:=by
 have ha0:=h.inv.inv.acts.1
 obtain ⟨hg0,hp0⟩:=h.inv.actG (by omega) (a:={ kind:=6,n:=(k:Int),m:=0,ops:=[] })
 have hl0:=h.inv.liv (by omega) h.liv (a:={ kind:=6,n:=(k:Int),m:=0,ops:=[] })
 cases hd:qab c.down k
 ·have hact:=q23 (net:=net) ha hk hd
  rw [hact] at hg0 hp0 hl0
  refine ⟨_,_,hact,⟨hp0.mono (by show _≤15300+102*(c.acts+1).toNat;omega),hl0⟩,rfl,rfl,?_,fun j hj=>⟨?_,?_⟩⟩
  ·show qab (c.down.setIfInBounds k true) k=true
   rw [qan hk,if_pos rfl]
  ·show qab (c.down.setIfInBounds k true) j=_
   rw [qan hk,if_neg (fun e=>hj e.symm)]
  ·show qab (c.tear.setIfInBounds k 0) j=_
   rw [qan hk,if_neg (fun e=>hj e.symm)]
 ·have hact:=qvk (net:=net) ha hk hd
  rw [hact] at hg0 hp0 hl0
  exact ⟨_,_,hact,⟨hp0.mono (by show _≤15300+102*(c.acts+1).toNat;omega),hl0⟩,rfl,rfl,hd,fun j _=>⟨rfl,rfl⟩⟩
theorem Sane.rise {c:GCluster} {net:List ByteArray} (h:Sane c net) (ha:c.acts<400) {k:Nat} (hk:k<6) (hd:qab c.down k=true) : ∃ r d,qfq c net { kind:=8,n:=k,m:=0,ops:=[] }=(r,d,net)∧r.code=0∧Sane d net∧d.acts=c.acts+1∧d.begun=c.begun∧qab d.down k=false∧qab d.tear k=0 ∧ ∀ j,j≠k→qab d.down j=qab c.down j∧qab d.tear j=qab c.tear j:=by
 have ha0:=h.inv.inv.acts.1
 obtain ⟨hg0,hp0⟩:=h.inv.actG (by omega) (a:={ kind:=8,n:=(k:Int),m:=0,ops:=[] })
 have hl0:=h.inv.liv (by omega) h.liv (a:={ kind:=8,n:=(k:Int),m:=0,ops:=[] })
 have hact:=q4y (net:=net) ha hk hd
 rw [hact] at hg0 hp0 hl0
 refine ⟨_,_,hact,rfl,⟨hp0.mono (by show _≤15300+102*(c.acts+1).toNat;omega),hl0⟩,rfl,rfl,?_,h.liv.dt k hk hd,fun j hj=>⟨?_,rfl⟩⟩
 ·show qab (c.down.setIfInBounds k false) k=false
  rw [qan hk,if_pos rfl]
 ·show qab (c.down.setIfInBounds k false) j=_
  rw [qan hk,if_neg (fun e=>hj e.symm)]
theorem qii {fu:Nat} (hfu:fu=70000) {g:Nat} (hg3:g≤3) {net:List ByteArray} : ∀ (n m k:Nat) (c:GCluster),k+m=6→m<n→Sane c net→c.begun=(g:Int)→c.acts+2*(m:Int)≤72→(∀ j,j<k→qab c.down j=false∧qab c.tear j=0)→qb6 fu g n c net k=some true
 | 0,m,k,_,_,h,_,_,_,_=>absurd h (by omega)
 | n+1,0,k,c,hk,_,h,hb,ha,hu=>by
  have hnl:=h.inv.inv.net.1
  rw [qb6,qad (qae (by omega))]
  exact qih hfu hg3 fu net c (by omega) ⟨h.inv,h.liv,fun j hj=>(hu j (by omega)).1,fun j hj=>(hu j (by omega)).2⟩ hb (by omega)
 | n+1,m+1,k,c,hk,hn,h,hb,ha,hu=>by
  have hk6:k<6:=by omega
  obtain ⟨r,d,e1,e2,e3,e4,e5,e6⟩:=h.crash (by omega) hk6
  obtain ⟨r',d',p1,p2,p3,p4,p5,p6,p7,p8⟩:=e2.rise (by omega) hk6 e5
  have ea:({ kind:=6,n:=(k:Int),m:=Zr.zd,ops:=Zr.zd }:GAct)={ kind:=6,n:=k,m:=0,ops:=[] }:=rfl
  have eb:({ kind:=8,n:=(k:Int),m:=Zr.zd,ops:=Zr.zd }:GAct)={ kind:=8,n:=k,m:=0,ops:=[] }:=rfl
  rw [qb6,qaj (qaf (by omega)),qaa,ea,qgl (by omega) h.inv.inv,qaa,qaa,eb,e1]
  dsimp only
  rw [qgl (by omega) e2.inv.inv,qaa,p1]
  dsimp only
  rw [p2,qad (by rfl),wrs k (by omega)]
  refine qii hfu hg3 n m (k+1) d' (by omega) (by omega) p3 (p5.trans (e4.trans hb)) (by omega) fun j hj => ?_
  by_cases e:j=k
  ·subst e;exact ⟨p6,p7⟩
  ·rw [(p8 j e).1,(p8 j e).2,(e6 j e).1,(e6 j e).2]
   exact hu j (by omega)
theorem qij {fu:Nat} (hfu:fu=70000) {c:GCluster} {net:List ByteArray} (h:Sane c net) {r:GCluster × Bool × List ByteArray} (hr:r.2.2=net) {g:Nat} (hg:g≤32) (hb:c.begun=(g:Int)) (ha:c.acts≤60) : ∀ (n m k:Nat),k+m=g→m<n→qbi fu r n c k=some true
 | 0,m,k,_,hh=>absurd hh (by omega)
 | n+1,0,k,hk,_=>by
  have:k=g:=by omega
  subst this
  have hend:qcr fu r k (qbi fu r n) c false=some true:=by
   rw [qcr,cond_false]
   by_cases h3:(k:Int)>3
   ·rw [qaj (qaf h3)]
   ·rw [qad (qae h3),hr]
    exact qii hfu (by omega) fu 6 0 c (by omega) (by omega) h hb (by omega) fun j hj=>absurd hj (by omega)
  rw [qbi]
  by_cases h32:(k:Int)<32
  ·have hbf:(qab c.cases k).begun=false:=by rw [h.inv.cnt k (by omega),hb,qae (by omega)]
   rw [qaj (qaf h32),qmx h.inv.inv (by omega) (by omega),qaa,Int.toNat_natCast,hbf]
   exact hend
  ·rw [qad (qae h32)]
   exact hend
 | n+1,m+1,k,hk,hn=>by
  have ih:=qij hfu h hr hg hb ha n m (k+1) (by omega) (by omega)
  have hbt:(qab c.cases k).begun=true:=by rw [h.inv.cnt k (by omega),hb,qaf (by omega)]
  rw [qbi,qaj (qaf (by omega)),qmx h.inv.inv (by omega) (by omega),qaa,Int.toNat_natCast,hbt,qcr,cond_true,qfo,wrs k (by omega)]
  exact ih
theorem qik {fu:Nat} (hfu:fu=70000) {l:List GAct} (hl:l.length≤60):qdc fu l=some true:=by
 have hp:=q9c l
 have hact:=qyf (l.take 150) newCl [] (by rw [List.length_take];show (0:Int)+_≤400;omega)
 have hliv:=q3a (l.take 150) qyj (by rw [List.length_take];omega) q61
 have ha:(goZ newCl [] (l.take 150)).2.1.acts≤60:=by
  rw [hact,List.length_take]
  show (0:Int)+_≤60
  omega
 unfold qdc
 rw [q2u hfu (by omega),qaa,qad (c := !true) rfl]
 have hb0:=hp.inv.begun
 have hs:Sane (goZ newCl [] (l.take 150)).2.1 (goZ newCl [] (l.take 150)).2.2:=⟨hp.mono (by omega),hliv⟩
 exact qij hfu hs rfl (g:=(goZ newCl [] (l.take 150)).2.1.begun.toNat) (by omega) (by omega) ha fu (goZ newCl [] (l.take 150)).2.1.begun.toNat 0 (by omega) (by omega)
theorem topSettlesD_eq {fu:Nat} (hfu:fu=70000) {l:List GAct} (hl:l.length≤17592186043904):qh1 fu l=some true:=by
 unfold qh1
 by_cases h60:(l.length:Int)>60
 ·rw [qaj (qaf h60)]
  have hc:qqs l none (some ((60:Nat):Int))=some (l.take 60):=qum (by omega)
  have hc:qqs l none (some 60)=some (l.take 60):=hc
  rw [hc,qaa]
  exact qik hfu (by rw [List.length_take];omega)
 ·rw [qad (qae h60)]
  exact qik hfu (by omega)
end Go.Proofs.Yteilffoclpgijaa
namespace Go.Proofs.Yteilffoclpgijaa
open Go.RowKit
open Rep (rep)
theorem op3:Opn Try.prog 3 Int:=q6w Try.underlying3 (by kernel_rfl)
theorem op65:Opn Try.prog 65 GOp:=⟨by kernel_rfl,fun H enc w fuel cs d p h hw=>by
 have hl:cs.length=3:=by obtain ⟨_,_,_,_,hl,_⟩:=DataW.trod_struct Try.underlying65 h;rw [hl];kernel_rfl
 obtain ⟨x0,h0⟩:=qgi (α := Int) (o:=0) (k:=1) Try.underlying65 h hw 0 _ rfl rfl rfl (by kernel_rfl) op3
 obtain ⟨x1,h1⟩:=qgi (α := Int) (o:=1) (k:=1) Try.underlying65 h hw 1 _ rfl rfl rfl (by kernel_rfl) op3
 obtain ⟨x2,h2⟩:=qgi (α := Int) (o:=2) (k:=1) Try.underlying65 h hw 2 _ rfl rfl rfl (by kernel_rfl) op3
 exact ⟨⟨x0,x1,x2⟩,GOp.fol ⟨hl,h0,h1,h2⟩⟩⟩
theorem op27:Opn Try.prog 27 (List (GOp)):=quu Try.underlying27 (by kernel_rfl) op65 (by decide) (by kernel_rfl)
theorem op43:Opn Try.prog 43 GAct:=⟨by kernel_rfl,fun H enc w fuel cs d p h hw=>by
 have hl:cs.length=4:=by obtain ⟨_,_,_,_,hl,_⟩:=DataW.trod_struct Try.underlying43 h;rw [hl];kernel_rfl
 obtain ⟨x0,h0⟩:=qgi (α := Int) (o:=0) (k:=1) Try.underlying43 h hw 0 _ rfl rfl rfl (by kernel_rfl) op3
 obtain ⟨x1,h1⟩:=qgi (α := Int) (o:=1) (k:=1) Try.underlying43 h hw 1 _ rfl rfl rfl (by kernel_rfl) op3
 obtain ⟨x2,h2⟩:=qgi (α := Int) (o:=2) (k:=1) Try.underlying43 h hw 2 _ rfl rfl rfl (by kernel_rfl) op3
 obtain ⟨x3,h3⟩:=qgi (α := List (GOp)) (o:=3) (k:=1) Try.underlying43 h hw 3 _ rfl rfl rfl (by kernel_rfl) op27
 exact ⟨⟨x0,x1,x2,x3⟩,GAct.fol ⟨hl,h0,h1,h2,h3⟩⟩⟩
theorem op22:Opn Try.prog 22 (List (GAct)):=quu Try.underlying22 (by kernel_rfl) op43 (by decide) (by kernel_rfl)
end Go.Proofs.Yteilffoclpgijaa
