/- What the proof of TopWakes rests on, part 7: rules of walks, what functions compute, and plain laws of it. -/
import Derived.Test.YteilffoclpgijaaTopWakesB6
namespace Go.Proofs.Yteilffoclpgijaa
open Go.RowKit
open Rep (rep)
abbrev logL (c:GCluster) (n:Nat):List UInt8:=(vget c.logs n).data.toList
structure CaseP (c:GCluster) (i:Nat):Prop where
  told : ∀ k,k<6→hasAt (vget c.cases i).told k=true→(eat (dur c k).entries i).state≠0 ∧ ∀ d∈(eat (dur c k).entries i).first,d∈(vget c.cases i).deps
  heard : ∀ d∈(vget c.cases i).deps,∃ j:Nat,d=j∧j<32∧j≠i∧(vget c.cases j).begun=true
  fix:(vget c.cases i).fixed=true→enoughC (vget c.cases i)=true
  done : ∀ k,hasAt (vget c.cases i).has k=true→(vget c.cases i).fixed=true ∧ ∃ (n m:Nat) (o:GOp),n<6∧(eat (dur c n).entries i).state=3∧(eat (dur c n).entries i).at_[m]? = some ((k:Nat):Int)∧(eat (dur c n).entries i).values[m]? = some ((vget c.cases i).values[k]?.getD 0)∧(vget c.cases i).ops[k]? = some o∧shardZ o.key=ofZ n
structure PInv (c:GCluster) (net:List ByteArray) (b:Nat):Prop where
  inv:CInv c net
  cnt : ∀ i,i<32→(vget c.cases i).begun=decide ((i:Int)<c.begun)
  rep : ∀ n:Nat,n<6→(replayZ n (readL (logL c n)).1 zeroN).2=0
  up : ∀ n,n<6→vget c.down n=false→vget c.nodes n=dur c n∧(readL (logL c n)).2=(vget c.logs n).size
  len : ∀ n,n<6→(vget c.logs n).size≤b
  net : ∀ s∈net,∃ f,s=(encP f).1∧NetF c f
  node : ∀ n,n<6→NodeP c n (dur c n)
  cas : ∀ i,i<32→(vget c.cases i).begun=true→CaseP c i
structure Grow (c d:GCluster):Prop where
  cas : ∀ i,i<32→(vget c.cases i).begun=true→(vget d.cases i).begun=true∧(vget d.cases i).ops=(vget c.cases i).ops∧((vget c.cases i).fixed=true→(vget d.cases i).fixed=true∧(vget d.cases i).deps=(vget c.cases i).deps)
  durs : ∀ n,n<6→KeepN (dur c n) (dur d n)
theorem Grow.of_cases {c d:GCluster} (hc:d.cases=c.cases) (hd : ∀ n,n<6→KeepN (dur c n) (dur d n)):Grow c d :=
  ⟨fun i _ hb=>by rw [hc];exact ⟨hb,rfl,fun h=>⟨h,rfl⟩⟩,hd⟩
theorem Grow.refl (c:GCluster):Grow c c := .of_cases rfl fun _ _ => .refl _
theorem Kp.ne {x y:GEntry} (h:Kp x y) (h0:0≤x.state) (hx:x.state≠0):y.state≠0:=by have:=h.state;omega
theorem NetE.grow {c d:GCluster} (hg:Grow c d) {f:GFrame} {x y:GEntry} (hid:f.id.toNat<32) (h0:0≤x.state) (hk:Kp x y) (h:NetE c f x):NetE d f y:=by
  obtain ⟨g1,g2,g3⟩:=hg.cas _ hid h.beg
  refine ⟨g1,fun hh => ?_,fun hh => ?_,fun hh => ?_,fun hh => ?_,fun hh => ?_⟩
  · rw [g2];exact h.ask hh
  · obtain ⟨a,b⟩:=h.told hh
    exact ⟨hk.ne h0 a,b.trans (hk.first a)⟩
  · obtain ⟨a,b,e⟩:=h.commit hh
    obtain ⟨g4,g5⟩:=g3 a
    rw [g2,g5]
    exact ⟨g4,b,e⟩
  · exact Int.le_trans (h.known hh) hk.state
  · obtain ⟨a,b⟩:=h.done hh
    rw [← hk.done a]
    exact ⟨a,b⟩
theorem NetF.grow {c d:GCluster} (hg:Grow c d) {f:GFrame} (h:NetF c f):NetF d f:=by
  obtain ⟨_,hn,hid⟩:=frameZ_in h.good
  exact ⟨h.good,h.ent.grow hg (by omega) ((dur_good c f.node.toNat).state (by omega)).1 ((hg.durs _ (by omega)).ent _ (by omega))⟩
theorem NodeP.grow {c d:GCluster} (hg:Grow c d) {n:Nat} {s:GNode} (h:NodeP c n s):NodeP d n s:=by
  refine ⟨fun i hi hs => ?_,fun i hi hs => ?_,h.way,h.heard,h.sorted⟩
  · obtain ⟨a,b⟩:=h.beg i hi hs
    obtain ⟨g1,g2,_⟩:=hg.cas i hi a
    rw [g2]
    exact ⟨g1,b⟩
  · obtain ⟨a,b⟩:=h.fix i hi hs
    obtain ⟨g1,g2,g3⟩:=hg.cas i hi (h.beg i hi (by omega)).1
    obtain ⟨g4,g5⟩:=g3 a
    rw [g5]
    exact ⟨g4,b⟩
theorem CaseP.grow {c d:GCluster} (hg:Grow c d) {i:Nat} (hi:i<32) (he:vget d.cases i=vget c.cases i) (h:CaseP c i):CaseP d i:=by
  refine ⟨fun k hk ht => ?_,fun x hx => ?_,fun hf => ?_,fun k hk => ?_⟩
  · rw [he] at ht ⊢
    obtain ⟨a,b⟩:=h.told k hk ht
    have hkp:=(hg.durs k hk).ent i hi
    rw [← hkp.first a]
    exact ⟨hkp.ne ((dur_good c k).state hi).1 a,b⟩
  · rw [he] at hx
    obtain ⟨j,h1,h2,h3,h4⟩:=h.heard x hx
    exact ⟨j,h1,h2,h3,(hg.cas j h2 h4).1⟩
  · rw [he] at hf ⊢
    exact h.fix hf
  · rw [he] at hk ⊢
    obtain ⟨a,n,m,o,h1,h2,h3⟩:=h.done k hk
    have hkp:=(hg.durs n h1).ent i hi
    rw [hkp.done h2] at h3
    have h2:=(congrArg GEntry.state (hkp.done h2)).symm.trans h2
    exact ⟨a,n,m,o,h1,h2,h3⟩
theorem sendZ_mem : ∀ (l:List GFrame) (net:List ByteArray) (s:ByteArray),s∈sendZ net l→s∈net ∨ ∃ f∈l,frameZ f=0∧s=(encP f).1
  | [],net,s,h => .inl h
  | f::t,net,s,h=>by
    rw [sendZ] at h
    rcases sendZ_mem t _ s h with h | ⟨g,hg,hz,e⟩
    · cases hb:(frameZ f==0&&decide (net.length<60))
      · rw [hb] at h;exact .inl h
      · rw [hb,cond_true] at h
        simp only [Bool.and_eq_true,beq_iff_eq] at hb
        rcases List.mem_append.1 h with h | h
        · exact .inl h
        · exact .inr ⟨f,List.mem_cons_self,hb.1,List.mem_singleton.1 h⟩
    · exact .inr ⟨g,List.mem_cons_of_mem _ hg,hz,e⟩
theorem PInv.send {c:GCluster} {net:List ByteArray} {b:Nat} (h:PInv c net b) (l:List GFrame) (hl : ∀ f∈l,frameZ f=0→NetF c f):PInv c (sendZ net l) b:=by
  refine ⟨h.inv.sent l,h.cnt,h.rep,h.up,h.len,fun s hs => ?_,h.node,h.cas⟩
  rcases sendZ_mem l net s hs with hs | ⟨f,hf,hz,e⟩
  · exact h.net s hs
  · exact ⟨f,e,hl f hf hz⟩
theorem PInv.cut {c:GCluster} {net net':List ByteArray} {b:Nat} (h:PInv c net b) (hs : ∀ s∈net',s∈net) (hl:net'.length≤net.length):PInv c net' b :=
  ⟨h.inv.cut hs hl,h.cnt,h.rep,h.up,h.len,fun s hm=>h.net s (hs s hm),h.node,h.cas⟩
theorem PInv.mono {c:GCluster} {net:List ByteArray} {b b':Nat} (h:PInv c net b) (hb:b≤b'):PInv c net b' :=
  ⟨h.inv,h.cnt,h.rep,h.up,fun n hn=>Nat.le_trans (h.len n hn) hb,h.net,h.node,h.cas⟩
theorem againL_net {c:GCluster} {i:Nat} (hi:i<32) (hb:(vget c.cases i).begun=true) : ∀ (m k:Nat),m+k=6 → ∀ f∈againL (vget c.cases i) i m k,frameZ f=0→NetF c f
  | 0,k,_,f,hf,_=>by cases hf
  | m+1,k,hk,f,hf,hz=>by
    rw [againL] at hf
    rcases List.mem_append.1 hf with hf | hf
    · have hi':((i:Nat):Int).toNat=i:=rfl
      unfold againAt at hf
      cases hfx:(vget c.cases i).fixed
      · rw [hfx,cond_false] at hf
        cases ht:(touchesZ (vget c.cases i).ops (ofZ k) && !hasAt (vget c.cases i).told k)
        · rw [ht] at hf;cases hf
        · rw [ht,cond_true] at hf
          simp only [Bool.and_eq_true] at ht
          have e:=List.mem_singleton.1 hf
          subst e
          exact ⟨hz,hb,fun _=>⟨rfl,ht.1⟩,fun h=>absurd (show (1:Int)=2 from h) (by decide),fun h=>absurd (show (1:Int)=3 from h) (by decide),fun h=>absurd (show (1:Int)=4 from h) (by decide),fun h=>absurd (show (1:Int)=5 from h) (by decide)⟩
      · rw [hfx,cond_true] at hf
        cases ht:(!hasAt (vget c.cases i).known k || !wholeC (vget c.cases i) (ofZ k))
        · rw [ht] at hf;cases hf
        · rw [ht,cond_true] at hf
          have e:=List.mem_singleton.1 hf
          subst e
          exact ⟨hz,hb,fun h=>absurd (show (3:Int)=1 from h) (by decide),fun h=>absurd (show (3:Int)=2 from h) (by decide),fun _=>⟨hfx,rfl,rfl⟩,fun h=>absurd (show (3:Int)=4 from h) (by decide),fun h=>absurd (show (3:Int)=5 from h) (by decide)⟩
    · exact againL_net hi hb m (k+1) (by omega) f hf hz
theorem againC_net {c:GCluster} {i:Nat} (hi:i<32) (hb:(vget c.cases i).begun=true) : ∀ f∈againC (vget c.cases i) i,frameZ f=0→NetF c f:=fun f hf hz=>by
  unfold againC at hf
  cases hs:sends (vget c.cases i) i
  · rw [hs] at hf;cases hf
  · rw [hs,cond_true] at hf
    exact againL_net hi hb 6 0 rfl f hf hz
theorem PInv.relog {c d:GCluster} {net:List ByteArray} {b b' n:Nat} (h:PInv c net b) (hn:n<6) (hinv:CInv d net) (hcas:d.cases=c.cases) (hbeg:d.begun=c.begun) (hlogs : ∀ k:Nat,k<6→k≠n→vget d.logs k=vget c.logs k)
    (hd:dur d n=dur c n ∨ ∃ f,NetF c f∧f.node=n∧(f.kind=1∨f.kind=3)∧dur d n=(takeN (dur c n) n f).1) (hrep:(replayZ n (readL (logL d n)).1 zeroN).2=0) (hlen : ∀ k:Nat,k<6→(vget d.logs k).size≤b')
    (hup : ∀ k:Nat,k<6→vget d.down k=false→vget d.nodes k=dur d k∧(readL (logL d k)).2=(vget d.logs k).size):Grow c d∧PInv d net b':=by
  have hdur : ∀ k,k<6→k≠n→dur d k=dur c k:=fun k hk hkn=>by unfold dur;rw [hlogs k hk hkn]
  have hg:Grow c d:=Grow.of_cases hcas fun k hk=>by
    by_cases e:k=n
    · subst e
      rcases hd with e | ⟨f,_,_,_,e⟩
      · rw [e];exact .refl _
      · rw [e];exact takeN_keep
    · rw [hdur k hk e];exact .refl _
  refine ⟨hg,hinv,fun i hi=>by rw [hcas,hbeg];exact h.cnt i hi,fun k hk => ?_,hup,hlen,fun s hs => ?_,fun k hk => ?_,fun i hi hb => ?_⟩
  · by_cases e:k=n
    · subst e;exact hrep
    · show (replayZ k (readL (vget d.logs k).data.toList).1 zeroN).2=0
      rw [hlogs k hk e]
      exact h.rep k hk
  · obtain ⟨f,e,hf⟩:=h.net s hs
    exact ⟨f,e,hf.grow hg⟩
  · by_cases e:k=n
    · subst e
      rcases hd with e | ⟨f,hf,hfn,hk2,e⟩
      · rw [e];exact (h.node k hk).grow hg
      · rw [e]
        exact ((h.node k hk).take hk (dur_good c k) hf.ent hf.good hfn hk2).2.1.grow hg
    · rw [hdur k hk e]
      exact (h.node k hk).grow hg
  · rw [hcas] at hb
    exact (h.cas i hi hb).grow hg hi (by rw [hcas])
theorem dur_of {d:GCluster} {n:Nat} {l:List ByteArray} (h:(readL (logL d n)).1=l):dur d n=(replayZ n l zeroN).1:=by
  unfold dur
  rw [h]
theorem replay_next {c:GCluster} {net:List ByteArray} {b n:Nat} (h:PInv c net b) (hn:n<6) {f:GFrame} (hf:NetF c f) (hfn:f.node=n) (hk:f.kind=1∨f.kind=3) :
    replayZ n ((readL (logL c n)).1++[(encP f).1]) zeroN=((takeN (dur c n) n f).1,0):=by
  have h0:=((h.node n hn).take hn (dur_good c n) hf.ent hf.good hfn hk).1
  obtain ⟨_,e2,_⟩:=dec_enc hf.good
  have hr:replayZ n (readL (logL c n)).1 zeroN=(dur c n,0):=Prod.ext rfl (h.rep n hn)
  rw [replayZ_snoc _ _ _ hr,replayZ,e2]
  show (bif (0:Int) != 0 then _ else bif (takeN (dur c n) n f).2.2 != 0 then _ else replayZ n [] (takeN (dur c n) n f).1)=_
  rw [h0]
  rfl
theorem set_other {c:GCluster} {n:Nat} {x:ByteArray} (hn:n<6) : ∀ k,k<6→k≠n→vget (c.logs.setIfInBounds n x) k=vget c.logs k:=fun k _ hkn=>by rw [vget_set hn,if_neg (Ne.symm hkn)]
theorem set_this {c:GCluster} {n:Nat} {x:ByteArray} (hn:n<6):vget (c.logs.setIfInBounds n x) n=x:=by rw [vget_set hn,if_pos rfl]
theorem set_len {c:GCluster} {net:List ByteArray} {b n:Nat} (h:PInv c net b) (hn:n<6) {x:ByteArray} (hx:x.size≤b+102) : ∀ k,k<6→(vget (c.logs.setIfInBounds n x) k).size≤b+102:=fun k hk=>by
  rw [vget_set hn]
  by_cases e:n=k
  · rw [if_pos e];exact hx
  · rw [if_neg e]
    have:=h.len k hk
    omega
theorem wcode_zero {log s:ByteArray} (h1:1≤s.size) (h2:s.size≤400) (h3:log.size+2+s.size≤65536):wcode log s=0:=by
  unfold wcode
  rw [if_neg (by omega),if_neg (by omega),if_neg (by omega)]
theorem enc_pos {f:GFrame} (h:frameZ f=0):1≤(encP f).1.size:=by
  obtain ⟨hb,_⟩:=enc_bytes (FOk_of h)
  have hsz:=byL_len (strOfNums (encZ f))
  rw [byL_str hb] at hsz
  have hpos:4≤(encZ f).length:=by unfold encZ;simp
  unfold encP
  rw [if_pos h]
  show 1≤(strOfNums (encZ f)).size
  omega
theorem PInv.comeG {c:GCluster} {net:List ByteArray} {b n:Nat} (h:PInv c net b) (hb:b≤60000) (hn:n<6) {f:GFrame} (hf:NetF c f) (hfn:f.node=n) (hk:f.kind=1∨f.kind=3) :
    (Grow c (comeZ c net n f (encP f).1).2.1∧PInv (comeZ c net n f (encP f).1).2.1 (comeZ c net n f (encP f).1).2.2 (b+102))∧((comeZ c net n f (encP f).1).1=0∨(comeZ c net n f (encP f).1).1=6):=by
  have hs1:=enc_pos hf.good
  have hs2:=encP_size f
  have hinv:=h.inv.come hn (f:=f) (s:=(encP f).1)
  have hlen:=h.len n hn
  have hw:=wcode_zero (log:=vget c.logs n) hs1 (by omega) (by omega)
  obtain ⟨t1,t2,t3⟩:=(h.node n hn).take hn (dur_good c n) hf.ent hf.good hfn hk
  have hnx:=replay_next h hn hf hfn hk
  obtain ⟨_,_,hid⟩:=frameZ_in hf.good
  have hni:f.node.toNat=n:=by omega
  unfold comeZ at hinv ⊢
  cases hd:vget c.down n
  · obtain ⟨u1,u2⟩:=h.up n hn hd
    rw [hd,cond_false,u1,t1,bif_f (by rfl)] at hinv
    rw [cond_false,u1,t1,bif_f (by rfl)]
    have hwhole:Whole (vget c.logs n) (readL (logL c n)).1:=Prod.ext rfl u2
    by_cases ht:vget c.tear n>0
    · rw [bif_t (dec_t ht)] at hinv ⊢
      refine ⟨?_,.inr rfl⟩
      obtain ⟨r1,r2⟩:=whole_tear hwhole (encP f).1 (vget c.tear n-1) hs1 (by omega) hw
      have hsz:(tearZ (vget c.logs n) (encP f).1 (vget c.tear n-1)).size≤b+102:=by
        have:tornLen (encP f).1 (vget c.tear n-1)≤(encP f).1.size+2:=by unfold tornLen;split<;>(try split)<;>omega
        omega
      have hl:logL (fallZ { c with logs:=c.logs.setIfInBounds n (tearZ (vget c.logs n) (encP f).1 (vget c.tear n-1)) } n) n=(tearZ (vget c.logs n) (encP f).1 (vget c.tear n-1)).data.toList:=congrArg (fun x:ByteArray=>x.data.toList) (set_this hn)
      have hc:(readL (logL (fallZ { c with logs:=c.logs.setIfInBounds n (tearZ (vget c.logs n) (encP f).1 (vget c.tear n-1)) } n) n)).1=(readL (logL c n)).1++[(encP f).1]∨(readL (logL (fallZ { c with logs:=c.logs.setIfInBounds n (tearZ (vget c.logs n) (encP f).1 (vget c.tear n-1)) } n) n)).1=(readL (logL c n)).1:=by
        rw [hl,r1]
        split
        · exact .inl rfl
        · exact .inr rfl
      refine h.relog hn hinv rfl rfl (set_other hn) ?_ ?_ (set_len h hn hsz) fun k hk hdn => ?_
      · rcases hc with hc | hc
        · exact .inr ⟨f,hf,hfn,hk,by rw [dur_of hc,hnx]⟩
        · exact .inl (dur_of hc)
      · rcases hc with hc | hc
        · rw [hc,hnx]
        · rw [hc];exact h.rep n hn
      · have hdn:vget (c.down.setIfInBounds n true) k=false:=hdn
        have hkn:n≠k:=by
          rintro rfl
          rw [vget_set hn,if_pos rfl] at hdn
          cases hdn
        rw [vget_set hn,if_neg hkn] at hdn
        obtain ⟨v1,v2⟩:=h.up k hk hdn
        have e1:vget (c.nodes.setIfInBounds n zeroN) k=vget c.nodes k:=by rw [vget_set hn,if_neg hkn]
        have e2:=set_other (c:=c) (x:=tearZ (vget c.logs n) (encP f).1 (vget c.tear n-1)) hn k hk (Ne.symm hkn)
        refine ⟨?_,?_⟩
        · show vget (c.nodes.setIfInBounds n zeroN) k=(replayZ k (readL (vget (c.logs.setIfInBounds n _) k).data.toList).1 zeroN).1
          rw [e1,e2]
          exact v1
        · show (readL (vget (c.logs.setIfInBounds n _) k).data.toList).2=(vget (c.logs.setIfInBounds n _) k).size
          rw [e2]
          exact v2
    · have hwo:wout (vget c.logs n) (encP f).1=wtext (vget c.logs n) (encP f).1:=by unfold wout;rw [if_pos hw]
      rw [bif_f (dec_f ht),hw,bif_f (by rfl),hwo] at hinv ⊢
      refine ⟨?_,.inl rfl⟩
      have hnext:=whole_next hwhole (encP f).1 hs1 (by omega)
      have hinv0:CInv { c with logs:=c.logs.setIfInBounds n (wtext (vget c.logs n) (encP f).1),nodes:=c.nodes.setIfInBounds n (takeN (dur c n) n f).1 } net:=by
        have hw2:=wout_size (s:=(encP f).1) (h.inv.log n hn)
        rw [hwo] at hw2
        have h':=(h.inv.setLog hn hw2).setNode hn (x:=(takeN (dur c n) n f).1) (b:=false) (takeN_good t1) fun e=>by cases e
        have e:({ c with logs:=c.logs.setIfInBounds n (wtext (vget c.logs n) (encP f).1) }:GCluster).down.setIfInBounds n false=c.down:=set_down_same hd hn
        rw [e] at h'
        exact h'
      have hl:logL { c with logs:=c.logs.setIfInBounds n (wtext (vget c.logs n) (encP f).1),nodes:=c.nodes.setIfInBounds n (takeN (dur c n) n f).1 } n=(wtext (vget c.logs n) (encP f).1).data.toList:=congrArg (fun x:ByteArray=>x.data.toList) (set_this hn)
      have hc:(readL (logL { c with logs:=c.logs.setIfInBounds n (wtext (vget c.logs n) (encP f).1),nodes:=c.nodes.setIfInBounds n (takeN (dur c n) n f).1 } n)).1=(readL (logL c n)).1++[(encP f).1]:=by rw [hl,hnext]
      have hdn:dur { c with logs:=c.logs.setIfInBounds n (wtext (vget c.logs n) (encP f).1),nodes:=c.nodes.setIfInBounds n (takeN (dur c n) n f).1 } n=(takeN (dur c n) n f).1:=by rw [dur_of hc,hnx]
      obtain ⟨hg,hp⟩:=h.relog hn hinv0 rfl rfl (set_other hn) (.inr ⟨f,hf,hfn,hk,hdn⟩) (by rw [hc,hnx]) (set_len h hn (by rw [wtext_size];omega)) fun k hk hdk=>by
        by_cases e:k=n
        · subst e
          refine ⟨?_,?_⟩
          · rw [hdn]
            show vget (c.nodes.setIfInBounds k _) k=_
            rw [vget_set hn,if_pos rfl]
          · rw [hl,hnext]
            show (wtext _ _).size=(vget (c.logs.setIfInBounds k _) k).size
            rw [set_this hn]
        · obtain ⟨v1,v2⟩:=h.up k hk hdk
          have e2:=set_other (c:=c) (x:=wtext (vget c.logs n) (encP f).1) hn k hk e
          refine ⟨?_,?_⟩
          · show vget (c.nodes.setIfInBounds n _) k=(replayZ k (readL (vget (c.logs.setIfInBounds n _) k).data.toList).1 zeroN).1
            rw [vget_set hn,if_neg (Ne.symm e),e2]
            exact v1
          · show (readL (vget (c.logs.setIfInBounds n _) k).data.toList).2=(vget (c.logs.setIfInBounds n _) k).size
            rw [e2]
            exact v2
      refine ⟨hg,hp.send _ fun g hgm hz => ?_⟩
      obtain ⟨g1,g2,g3⟩:=t3 g hgm
      refine ⟨hz,?_⟩
      have:g.node.toNat=n:=by rw [g1];rfl
      rw [this,g2,hdn]
      have hgrow:=hg.cas f.id.toNat (by omega) hf.ent.beg
      have hs0:=((takeN_good t1).state (show f.id.toNat<32 by omega)).1
      exact NetE.grow hg (by rw [g2];omega) hs0 (Kp.refl _) g3
  · exact ⟨⟨.refl c,h.mono (by omega)⟩,.inr rfl⟩
end Go.Proofs.Yteilffoclpgijaa
namespace Go.Proofs.Yteilffoclpgijaa
open Go.RowKit
open Rep (rep)
theorem hasZ_iff {l:List Int} {n:Int}:hasZ l n=true↔n∈l:=by
  unfold hasZ
  rw [List.any_eq_true]
  constructor
  · rintro ⟨x,hx,e⟩
    rw [← beq_iff_eq.1 e]
    exact hx
  · exact fun h=>⟨n,h,by simp⟩
theorem mem_union {a b:List Int} {n:Int}:n∈unionZ a b↔(0≤n∧n<32)∧(n∈a∨n∈b):=by
  rw [← hasZ_iff,← hasZ_iff (l:=a),← hasZ_iff (l:=b)]
  unfold unionZ
  rw [has_unionTo,Bool.and_eq_true,decide_eq_true_eq,Bool.or_eq_true]
  exact Iff.rfl
theorem hasAt_zero {n:Nat} (k:Nat):hasAt (Zr.zd:Vector Bool n) k=false:=by
  show hasAt (Vector.replicate n false) k=false
  unfold hasAt
  by_cases hk:k<n<;>simp [hk]
theorem PInv.recase {c d:GCluster} {net:List ByteArray} {b:Nat} (h:PInv c net b) (hinv:CInv d net) (hl:d.logs=c.logs) (hn:d.nodes=c.nodes) (hd:d.down=c.down) (hcnt : ∀ i:Nat,i<32→(vget d.cases i).begun=decide ((i:Int)<d.begun))
    (hgc : ∀ i,i<32→(vget c.cases i).begun=true→(vget d.cases i).begun=true∧(vget d.cases i).ops=(vget c.cases i).ops∧((vget c.cases i).fixed=true→(vget d.cases i).fixed=true∧(vget d.cases i).deps=(vget c.cases i).deps))
    (hcas:Grow c d → ∀ i,i<32→(vget d.cases i).begun=true→CaseP d i):Grow c d∧PInv d net b:=by
  have hdur : ∀ n,dur d n=dur c n:=fun n=>by unfold dur;rw [hl]
  have hg:Grow c d:=⟨hgc,fun n _=>by rw [hdur];exact .refl _⟩
  refine ⟨hg,hinv,hcnt,fun n hn' => ?_,fun n hn' hd' => ?_,fun n hn'=>by rw [hl];exact h.len n hn',fun s hs => ?_,fun n hn' => ?_,hcas hg⟩
  · show (replayZ n (readL (vget d.logs n).data.toList).1 zeroN).2=0
    rw [hl]
    exact h.rep n hn'
  · rw [hd] at hd'
    obtain ⟨u1,u2⟩:=h.up n hn' hd'
    refine ⟨by rw [hdur,hn];exact u1,?_⟩
    show (readL (vget d.logs n).data.toList).2=(vget d.logs n).size
    rw [hl]
    exact u2
  · obtain ⟨f,e,hf⟩:=h.net s hs
    exact ⟨f,e,hf.grow hg⟩
  · rw [hdur]
    exact (h.node n hn').grow hg
theorem beginC_ok {t:GTxn} (h:(beginC t).2.2=0):goodOpsZ t.ops=true∧beginC t=(newC t.ops,againC (newC t.ops) t.id,0):=by
  unfold beginC at *
  cases h1:decide (0≤t.id∧t.id<32)
  · rw [h1] at h
    exact absurd (show (2:Int)=0 from h) (by decide)
  · rw [h1,cond_true] at h
    cases h2:goodOpsZ t.ops
    · rw [h2] at h
      exact absurd (show (1:Int)=0 from h) (by decide)
    · exact ⟨rfl,rfl⟩
theorem newC_caseP {d:GCluster} {i:Nat} {ops:List GOp} (he:vget d.cases i=newC ops):CaseP d i:=by
  refine ⟨fun k _ ht => ?_,fun x hx => ?_,fun hf => ?_,fun k hk => ?_⟩
  · rw [he] at ht
    have:=hasAt_zero (n:=6) k
    rw [show (newC ops).told=Zr.zd from rfl,this] at ht
    cases ht
  · rw [he] at hx
    cases hx
  · rw [he] at hf
    cases hf
  · rw [he] at hk
    have:=hasAt_zero (n:=4) k
    rw [show (newC ops).has=Zr.zd from rfl,this] at hk
    cases hk
theorem PInv.beginG {c:GCluster} {net:List ByteArray} {b:Nat} (h:PInv c net b) {ops:List GOp}:Grow c (begZ c net ops).2.1∧PInv (begZ c net ops).2.1 (begZ c net ops).2.2 b:=by
  obtain ⟨h0,h1⟩:=h.inv.begun
  have hinv:=h.inv.beg (ops:=ops)
  unfold begZ at hinv ⊢
  by_cases h32:c.begun≥32
  · rw [bif_t (dec_t h32)];exact ⟨.refl c,h⟩
  · rw [bif_f (dec_f h32)] at hinv ⊢
    by_cases hc:(beginC { id:=c.begun,ops:=ops }).2.2=0
    · obtain ⟨hgo,hbe⟩:=beginC_ok hc
      rw [bif_f (by simp [hc])] at hinv ⊢
      have hi:c.begun.toNat<32:=by omega
      have hiz:((c.begun.toNat:Nat):Int)=c.begun:=by omega
      have hset : ∀ k,vget (begC c ops).cases k=if c.begun.toNat=k then newC ops else vget c.cases k:=fun k=>by
        show vget (c.cases.setIfInBounds _ _) k=_
        rw [vget_set hi,hbe]
      have hnb : ∀ i:Nat,i<32→(vget c.cases i).begun=true→c.begun.toNat≠i:=fun i hi' hb e=>by
        rw [h.cnt i hi',decide_eq_true_eq] at hb
        omega
      have hinv0:CInv (begC c ops) net:=⟨hinv.acts,hinv.begun,hinv.node,hinv.down,hinv.log,hinv.tear,hinv.cas,h.inv.net⟩
      obtain ⟨hg,hp⟩:=h.recase (d:=begC c ops) hinv0 rfl rfl rfl (fun i hi'=>by
          rw [hset,show (begC c ops).begun=c.begun+1 from rfl]
          by_cases e:c.begun.toNat=i
          · rw [if_pos e,dec_t (by omega)];rfl
          · rw [if_neg e,h.cnt i hi']
            by_cases hlt:(i:Int)<c.begun
            · rw [dec_t hlt,dec_t (by omega)]
            · rw [dec_f hlt,dec_f (by omega)]) (fun i hi' hb=>by
          rw [hset,if_neg (hnb i hi' hb)]
          exact ⟨hb,rfl,fun hf=>⟨hf,rfl⟩⟩) (fun hg i hi' hb=>by
          by_cases e:c.begun.toNat=i
          · exact newC_caseP (ops:=ops) (by rw [hset,if_pos e])
          · rw [hset,if_neg e] at hb
            exact (h.cas i hi' hb).grow hg hi' (by rw [hset,if_neg e]))
      refine ⟨hg,hp.send _ fun f hf hz => ?_⟩
      rw [hbe] at hf
      have hthis:vget (begC c ops).cases c.begun.toNat=newC ops:=by rw [hset,if_pos rfl]
      refine againC_net (c:=begC c ops) hi (by rw [hthis];rfl) f ?_ hz
      rw [hthis,hiz]
      exact hf
    · rw [bif_t (by simp [hc])];exact ⟨.refl c,h⟩
theorem takeOk_cases {c:GCase} {id:Int} {f:GFrame} (hk:f.kind=2∨f.kind=4∨f.kind=5):(takeOk c id f).2.2=0 ∧
    ((((takeOk c id f).1.begun=c.begun∧(takeOk c id f).1.ops=c.ops∧(takeOk c id f).1.told=c.told∧(takeOk c id f).1.deps=c.deps∧(takeOk c id f).1.fixed=c.fixed)∧(takeOk c id f).2.1=[] ∧
      (((takeOk c id f).1.has=c.has∧(takeOk c id f).1.values=c.values)∨(f.kind=5∧c.fixed=true∧(takeOk c id f).1=doneL (ofZ f.node) c f.at_ f.vals))) ∨
    (f.kind=2∧c.fixed=false∧(takeOk c id f).1=fixC (toldC c f)∧(takeOk c id f).2.1=bif enoughC (toldC c f) then againC (fixC (toldC c f)) id else [])):=by
  unfold takeOk
  rcases hk with e | e | e
  · rw [e,show ((2:Int)==2)=true from rfl,cond_true]
    cases hf:(c.fixed||(hasAt c.told f.node.toNat || !touchesZ c.ops (ofZ f.node)))
    · rw [cond_false]
      refine ⟨rfl,.inr ⟨rfl,?_,rfl,rfl⟩⟩
      cases h:c.fixed
      · rfl
      · rw [h] at hf;cases hf
    · rw [cond_true]
      exact ⟨rfl,.inl ⟨⟨rfl,rfl,rfl,rfl,rfl⟩,rfl,.inl ⟨rfl,rfl⟩⟩⟩
  · rw [e,show ((4:Int)==2)=false from rfl,show ((4:Int)==4)=true from rfl,cond_false,cond_true]
    cases hf:c.fixed
    · exact ⟨rfl,.inl ⟨⟨rfl,rfl,rfl,rfl,hf⟩,rfl,.inl ⟨rfl,rfl⟩⟩⟩
    · exact ⟨rfl,.inl ⟨⟨rfl,rfl,rfl,rfl,rfl⟩,rfl,.inl ⟨rfl,rfl⟩⟩⟩
  · rw [e,show ((5:Int)==2)=false from rfl,show ((5:Int)==4)=false from rfl,show ((5:Int)==5)=true from rfl,cond_false,cond_false,cond_true]
    cases hf:c.fixed
    · exact ⟨rfl,.inl ⟨⟨rfl,rfl,rfl,rfl,hf⟩,rfl,.inl ⟨rfl,rfl⟩⟩⟩
    · obtain ⟨a1,a2,a3,a4,a5,_⟩:=doneL_same (sh:=ofZ f.node) (at_:=f.at_) (vs:=f.vals) (c:=c)
      exact ⟨rfl,.inl ⟨⟨a3,a1,a5,a4,a2.trans hf⟩,rfl,.inr ⟨rfl,rfl,rfl⟩⟩⟩
theorem doneL_has {sh:Int} : ∀ {at_ vs:List Int} {c:GCase} {k:Nat},(∀ n∈at_,0≤n∧n<4)→hasAt (doneL sh c at_ vs).has k=true →
    (hasAt c.has k=true∧(doneL sh c at_ vs).values[k]? = c.values[k]?) ∨ ∃ (m:Nat) (o:GOp),at_[m]? = some ((k:Nat):Int)∧vs[m]? = some ((doneL sh c at_ vs).values[k]?.getD 0)∧c.ops[k]? = some o∧shardZ o.key=sh
  | [],_,c,k,_,h=>by unfold doneL at *;exact .inl ⟨h,rfl⟩
  | _::_,[],c,k,_,h=>by unfold doneL at *;exact .inl ⟨h,rfl⟩
  | x::at_,v::vs,c,k,hm,h=>by
    rw [doneL] at h ⊢
    have hx:=hm x List.mem_cons_self
    have hops:=(doneStep_same (sh:=sh) (c:=c) (k:=x) (v:=v)).1
    rcases doneL_has (fun n hn=>hm n (List.mem_cons_of_mem _ hn)) h with ⟨h1,h2⟩ | ⟨m,o,h1,h2,h3,h4⟩
    · rw [h2]
      unfold doneStep at h1 ⊢
      cases hb:(decide (x<(c.ops.length:Int))&&(((idx c.ops x).map fun o=>shardZ o.key==sh).getD false && !hasAt c.has x.toNat))
      · rw [hb,cond_false] at h1
        rw [cond_false]
        exact .inl ⟨h1,rfl⟩
      · rw [hb,cond_true] at h1
        rw [cond_true]
        have h1:hasAt (c.has.setIfInBounds x.toNat true) k=true:=h1
        show (_∧(c.values.setIfInBounds x.toNat v)[k]? = _) ∨ ∃ (m:Nat) (o:GOp),_∧_=some ((c.values.setIfInBounds x.toNat v)[k]?.getD 0)∧_
        rw [hasAt_set (by omega)] at h1
        rw [Vector.getElem?_setIfInBounds]
        by_cases e:x.toNat=k
        · simp only [Bool.and_eq_true,decide_eq_true_eq] at hb
          obtain ⟨b1,b2,_⟩:=hb
          have hk4:x.toNat<4:=by omega
          rw [if_pos e,if_pos hk4]
          obtain ⟨o,ho⟩ : ∃ o,idx c.ops x=some o:=by
            unfold idx
            rw [if_pos hx.1]
            exact ⟨_,List.getElem?_eq_getElem (by omega)⟩
          rw [ho] at b2
          have ho':c.ops[k]? = some o:=by
            unfold idx at ho
            rw [if_pos hx.1,e] at ho
            exact ho
          exact .inr ⟨0,o,by rw [List.getElem?_cons_zero,← e];congr 1;omega,rfl,ho',by simpa using b2⟩
        · rw [if_neg e] at h1 ⊢
          exact .inl ⟨h1,rfl⟩
    · rw [hops] at h3
      exact .inr ⟨m+1,o,by rw [List.getElem?_cons_succ];exact h1,by rw [List.getElem?_cons_succ];exact h2,h3,h4⟩
theorem PInv.takeG {c:GCluster} {net:List ByteArray} {b:Nat} (h:PInv c net b) {f:GFrame} (hf:NetF c f) (hk:f.kind=2∨f.kind=4∨f.kind=5) :
    (takeC (vget c.cases f.id.toNat) f.id f).2.2=0∧Grow c { c with cases:=c.cases.setIfInBounds f.id.toNat (takeC (vget c.cases f.id.toNat) f.id f).1 }∧PInv { c with cases:=c.cases.setIfInBounds f.id.toNat (takeC (vget c.cases f.id.toNat) f.id f).1 } (sendZ net (takeC (vget c.cases f.id.toNat) f.id f).2.1) b:=by
  obtain ⟨_,hnr,hid⟩:=frameZ_in hf.good
  have hi:f.id.toNat<32:=by omega
  have hn:f.node.toNat<6:=by omega
  have hiz:((f.id.toNat:Nat):Int)=f.id:=by omega
  have hnz:((f.node.toNat:Nat):Int)=f.node:=by omega
  have hbeg:=hf.ent.beg
  have hg:=h.inv.cas _ hi
  have hcp:=h.cas _ hi hbeg
  have htk:takes (vget c.cases f.id.toNat) f.id f=true:=by
    unfold takes
    rw [hg,hbeg,beq_self_eq_true,Bool.true_and,Bool.true_and,Bool.true_and]
    cases hh:hasZ (vget c.cases f.id.toNat).deps f.id
    · rfl
    · obtain ⟨j,e1,_,e3,_⟩:=hcp.heard _ (hasZ_iff.1 hh)
      exact absurd (by omega) e3
  have htake:takeC (vget c.cases f.id.toNat) f.id f=takeOk (vget c.cases f.id.toNat) f.id f:=by
    unfold takeC
    rw [htk,hf.good]
    rfl
  have hgood:=takeC_good (id:=f.id) (f:=f) hg
  rw [htake] at hgood ⊢
  obtain ⟨h0,hcs⟩:=takeOk_cases (c:=vget c.cases f.id.toNat) (id:=f.id) hk
  refine ⟨h0,?_⟩
  have hset : ∀ k,vget ({ c with cases:=c.cases.setIfInBounds f.id.toNat (takeOk (vget c.cases f.id.toNat) f.id f).1 }:GCluster).cases k=if f.id.toNat=k then (takeOk (vget c.cases f.id.toNat) f.id f).1 else vget c.cases k:=fun k=>vget_set hi
  have hinv:=h.inv.setCase hi hgood
  have hnode:=h.node _ hn
  have hb1:(takeOk (vget c.cases f.id.toNat) f.id f).1.begun=true:=by
    rcases hcs with ⟨⟨e,_⟩,_⟩ | ⟨_,_,e,_⟩
    · rw [e];exact hbeg
    · rw [e];exact hbeg
  have ho1:(takeOk (vget c.cases f.id.toNat) f.id f).1.ops=(vget c.cases f.id.toNat).ops:=takeOk_small.1
  have hbegs : ∀ j,(vget ({ c with cases:=c.cases.setIfInBounds f.id.toNat (takeOk (vget c.cases f.id.toNat) f.id f).1 }:GCluster).cases j).begun=(vget c.cases j).begun:=fun j=>by
    rw [hset]
    by_cases e:f.id.toNat=j
    · rw [if_pos e,hb1,← e,hbeg]
    · rw [if_neg e]
  have hhear : ∀ d∈f.deps,f.kind=2 → ∃ j:Nat,d=j∧j<32∧j≠f.id.toNat∧(vget c.cases j).begun=true:=fun d hd h2=>by
    obtain ⟨t1,t2⟩:=hf.ent.told h2
    rw [t2] at hd
    obtain ⟨j,e1,e2,e3,e4⟩:=hnode.heard _ hi t1 d hd
    exact ⟨j,e1,e2,e3,(hnode.beg j e2 e4).1⟩
  obtain ⟨hgr,hp⟩:=h.recase (d:={ c with cases:=c.cases.setIfInBounds f.id.toNat (takeOk (vget c.cases f.id.toNat) f.id f).1 }) hinv rfl rfl rfl (fun i hi'=>by rw [hbegs];exact h.cnt i hi') (fun i hi' hb=>by
      rw [hset]
      by_cases e:f.id.toNat=i
      · rw [if_pos e,← e]
        refine ⟨hb1,ho1,fun hfx => ?_⟩
        rcases hcs with ⟨⟨_,_,_,e4,e5⟩,_⟩ | ⟨_,e2,_,_⟩
        · exact ⟨e5.trans hfx,e4⟩
        · rw [hfx] at e2;cases e2
      · rw [if_neg e]
        exact ⟨hb,rfl,fun hfx=>⟨hfx,rfl⟩⟩) (fun hgr i hi' hb=>by
      by_cases e:f.id.toNat=i
      · subst e
        have hthis:=hset f.id.toNat
        rw [if_pos rfl] at hthis
        rcases hcs with ⟨⟨_,e2,e3,e4,e5⟩,_,e6⟩ | ⟨h2,hnf,e,_⟩
        · refine ⟨fun k hk ht => ?_,fun d hd => ?_,fun hfx => ?_,fun k hk => ?_⟩
          · rw [hthis,e3] at ht
            rw [hthis,e4]
            exact hcp.told k hk ht
          · rw [hthis,e4] at hd
            obtain ⟨j,a1,a2,a3,a4⟩:=hcp.heard d hd
            exact ⟨j,a1,a2,a3,by rw [hbegs];exact a4⟩
          · rw [hthis] at hfx ⊢
            rw [e5] at hfx
            rw [enoughC_same e2 e3]
            exact hcp.fix hfx
          · rw [hthis] at hk ⊢
            rw [e2,e5]
            rcases e6 with ⟨e7,e8⟩ | ⟨h5,hfx,e7⟩
            · rw [e7] at hk
              rw [e8]
              exact hcp.done k hk
            · rw [e7] at hk ⊢
              rcases doneL_has (AtOk_of hf.good).mem hk with ⟨a1,a2⟩ | ⟨m,o,a1,a2,a3,a4⟩
              · rw [a2]
                exact hcp.done k a1
              · obtain ⟨d1,d2,d3⟩:=hf.ent.done h5
                replace a1:=(congrArg (fun l:List Int=>l[m]?) d2).symm.trans a1
                replace a2:=(congrArg (fun l:List Int=>l[m]?) d3).symm.trans a2
                exact ⟨hfx,f.node.toNat,m,o,hn,d1,a1,a2,a3,by rw [hnz];exact a4⟩
        · replace hthis:=hthis.trans e
          refine ⟨fun k hk ht => ?_,fun d hd => ?_,fun hfx => ?_,fun k hk => ?_⟩
          · rw [hthis] at ht ⊢
            have ht:hasAt ((vget c.cases f.id.toNat).told.setIfInBounds f.node.toNat true) k=true:=ht
            rw [hasAt_set hn] at ht
            show _ ∧ ∀ d∈(eat (dur c k).entries f.id.toNat).first,d∈unionZ (vget c.cases f.id.toNat).deps f.deps
            by_cases e':f.node.toNat=k
            · subst e'
              obtain ⟨t1,t2⟩:=hf.ent.told h2
              refine ⟨t1,fun d hd=>mem_union.2 ⟨?_,.inr (by rw [t2];exact hd)⟩⟩
              obtain ⟨j,a1,a2,_⟩:=hnode.heard _ hi t1 d hd
              omega
            · rw [if_neg e'] at ht
              obtain ⟨t1,t2⟩:=hcp.told k hk ht
              refine ⟨t1,fun d hd=>mem_union.2 ⟨?_,.inl (t2 d hd)⟩⟩
              obtain ⟨j,a1,a2,_⟩:=hcp.heard d (t2 d hd)
              omega
          · rw [hthis] at hd
            have hd:d∈unionZ (vget c.cases f.id.toNat).deps f.deps:=hd
            rcases (mem_union.1 hd).2 with hd | hd
            · obtain ⟨j,a1,a2,a3,a4⟩:=hcp.heard d hd
              exact ⟨j,a1,a2,a3,by rw [hbegs];exact a4⟩
            · obtain ⟨j,a1,a2,a3,a4⟩:=hhear d hd h2
              exact ⟨j,a1,a2,a3,by rw [hbegs];exact a4⟩
          · rw [hthis] at hfx ⊢
            have hfx:enoughC (toldC (vget c.cases f.id.toNat) f)=true:=hfx
            rw [← hfx]
            exact enoughC_same rfl rfl
          · rw [hthis] at hk
            have:=(hcp.done k hk).1
            rw [hnf] at this
            cases this
      · rw [hbegs] at hb
        exact (h.cas i hi' hb).grow hgr hi' (by rw [hset,if_neg e]))
  refine ⟨hgr,hp.send _ fun g hgm hz => ?_⟩
  have hthis:=hset f.id.toNat
  rw [if_pos rfl] at hthis
  refine againC_net (c:={ c with cases:=c.cases.setIfInBounds f.id.toNat (takeOk (vget c.cases f.id.toNat) f.id f).1 }) hi (by rw [hthis];exact hb1) g ?_ hz
  rw [hthis,hiz]
  rcases hcs with ⟨_,e,_⟩ | ⟨_,_,e1,e2⟩
  · rw [e] at hgm;cases hgm
  · rw [e2] at hgm
    rw [e1]
    cases he:enoughC (toldC (vget c.cases f.id.toNat) f)
    · rw [he] at hgm;cases hgm
    · rw [he] at hgm;exact hgm
end Go.Proofs.Yteilffoclpgijaa
namespace Go.Proofs.Yteilffoclpgijaa
open Go.RowKit
open Rep (rep)
theorem PInv.keepG {c d:GCluster} {net:List ByteArray} {b:Nat} (h:PInv c net b) (hinv:CInv d net) (hl:d.logs=c.logs) (hn:d.nodes=c.nodes) (hd:d.down=c.down) (hc:d.cases=c.cases) (hb:d.begun=c.begun):Grow c d∧PInv d net b :=
  h.recase hinv hl hn hd (fun i hi=>by rw [hc,hb];exact h.cnt i hi) (fun i _ hb=>by rw [hc];exact ⟨hb,rfl,fun hf=>⟨hf,rfl⟩⟩) fun hg i hi hb=>(h.cas i hi (by rw [← hc];exact hb)).grow hg hi (by rw [hc])
theorem PInv.fallG {c:GCluster} {net:List ByteArray} {b n:Nat} (h:PInv c net b) (hn:n<6):Grow c (fallZ c n)∧PInv (fallZ c n) net b :=
  h.relog (d:=fallZ c n) (b':=b) hn (h.inv.fall hn) rfl rfl (fun _ _ _=>rfl) (.inl rfl) (h.rep n hn) h.len fun k hk hdn=>by
    have hdn:vget (c.down.setIfInBounds n true) k=false:=hdn
    have hkn:n≠k:=by
      rintro rfl
      rw [vget_set hn,if_pos rfl] at hdn
      cases hdn
    rw [vget_set hn,if_neg hkn] at hdn
    obtain ⟨v1,v2⟩:=h.up k hk hdn
    refine ⟨?_,v2⟩
    show vget (c.nodes.setIfInBounds n zeroN) k=_
    rw [vget_set hn,if_neg hkn]
    exact v1
theorem readL_cut : ∀ (n:Nat) (l:List UInt8),l.length≤n→readL (l.take (readL l).2)=readL l
  | n,[],_=>by rw [readL_short (l:=[]) (by simp)];exact readL_short (by simp)
  | n,[x],_=>by rw [readL_short (l:=[x]) (by simp)];exact readL_short (by simp)
  | 0,a::b::r,h=>by simp at h
  | n+1,a::b::r,h=>by
    by_cases hk:1≤recN a b∧recN a b≤400∧recN a b≤r.length
    · have ih:=readL_cut n (r.drop (recN a b)) (by simp at h ⊢;omega)
      obtain ⟨hsm,_⟩:=readL_small _ (r.drop (recN a b)) (Nat.le_refl _)
      rw [List.length_drop] at hsm
      have hgo:=readL_go hk
      have e:(a::b::r).take (readL (a::b::r)).2=a::b::r.take (recN a b+(readL (r.drop (recN a b))).2):=by
        rw [hgo,show 2+recN a b+(readL (r.drop (recN a b))).2=(recN a b+(readL (r.drop (recN a b))).2)+1+1 by omega,List.take_succ_cons,List.take_succ_cons]
      have hk':1≤recN a b∧recN a b≤400∧recN a b≤(r.take (recN a b+(readL (r.drop (recN a b))).2)).length:=⟨hk.1,hk.2.1,by rw [List.length_take];omega⟩
      have e1:(r.take (recN a b+(readL (r.drop (recN a b))).2)).take (recN a b)=r.take (recN a b):=by rw [List.take_take,Nat.min_eq_left (by omega)]
      have e2:(r.take (recN a b+(readL (r.drop (recN a b))).2)).drop (recN a b)=(r.drop (recN a b)).take (readL (r.drop (recN a b))).2:=by rw [List.drop_take,Nat.add_sub_cancel_left]
      rw [e,readL_go hk',e1,e2,ih,hgo]
    · rw [readL_stop hk]
      exact readL_short (by simp)
theorem cut_log (log:ByteArray):readL (log.extract 0 (readL log.data.toList).2).data.toList=readL log.data.toList:=by
  have e:(log.extract 0 (readL log.data.toList).2).data.toList=log.data.toList.take (readL log.data.toList).2:=by
    rw [Go.Lib.extract_data]
    simp
  rw [e]
  exact readL_cut _ _ (Nat.le_refl _)
theorem rise_dur {c:GCluster} {n:Nat} (hn:n<6):dur (riseZ c n) n=dur c n:=by
  unfold dur riseZ
  dsimp only
  rw [vget_set hn,if_pos rfl,cut_log]
theorem PInv.riseG {c:GCluster} {net:List ByteArray} {b n:Nat} (h:PInv c net b) (hn:n<6):Grow c (riseZ c n)∧PInv (riseZ c n) net b:=by
  have hlog:=h.inv.log n hn
  have hdl:(vget c.logs n).data.toList.length=(vget c.logs n).size:=rfl
  obtain ⟨r1,_⟩:=readL_small _ (vget c.logs n).data.toList (Nat.le_refl _)
  have hinv:CInv (riseZ c n) net:=(h.inv.setLog hn (x:=(vget c.logs n).extract 0 (readL (vget c.logs n).data.toList).2) (by rw [ByteArray.size_extract];omega)).setNode hn (b:=false) (replayZ_good _ zero_good) fun e=>by cases e
  have hthis:vget (riseZ c n).logs n=(vget c.logs n).extract 0 (readL (vget c.logs n).data.toList).2:=by
    show vget (c.logs.setIfInBounds n _) n=_
    rw [vget_set hn,if_pos rfl]
  have hread:readL (logL (riseZ c n) n)=readL (logL c n):=by
    show readL (vget (riseZ c n).logs n).data.toList=_
    rw [hthis,cut_log]
  refine h.relog (d:=riseZ c n) (b':=b) hn hinv rfl rfl (fun k hk hkn => ?_) (.inl (rise_dur hn)) ?_ (fun k hk => ?_) fun k hk hdn => ?_
  · show vget (c.logs.setIfInBounds n _) k=_
    rw [vget_set hn,if_neg (Ne.symm hkn)]
  · rw [hread];exact h.rep n hn
  · by_cases e:n=k
    · subst e
      rw [hthis,ByteArray.size_extract]
      have:=h.len n hn
      omega
    · show (vget (c.logs.setIfInBounds n _) k).size≤b
      rw [vget_set hn,if_neg e]
      exact h.len k hk
  · by_cases e:n=k
    · subst e
      refine ⟨?_,?_⟩
      · rw [rise_dur hn]
        show vget (c.nodes.setIfInBounds n _) n=_
        rw [vget_set hn,if_pos rfl]
        rfl
      · rw [hread,hthis,ByteArray.size_extract]
        show (readL (vget c.logs n).data.toList).2=_
        omega
    · have hdn:vget (c.down.setIfInBounds n false) k=false:=hdn
      rw [vget_set hn,if_neg e] at hdn
      obtain ⟨v1,v2⟩:=h.up k hk hdn
      have e1:vget (riseZ c n).logs k=vget c.logs k:=by
        show vget (c.logs.setIfInBounds n _) k=_
        rw [vget_set hn,if_neg e]
      refine ⟨?_,?_⟩
      · show vget (c.nodes.setIfInBounds n _) k=(replayZ k (readL (vget (riseZ c n).logs k).data.toList).1 zeroN).1
        rw [vget_set hn,if_neg e,e1]
        exact v1
      · show (readL (vget (riseZ c n).logs k).data.toList).2=(vget (riseZ c n).logs k).size
        rw [e1]
        exact v2
theorem PInv.fall {c:GCluster} {net:List ByteArray} {b n:Nat} (h:PInv c net b) (hn:n<6):PInv (fallZ c n) net b:=(h.fallG hn).2
theorem PInv.powG {c:GCluster} {net:List ByteArray} {b:Nat} (h:PInv c net b) {a:GAct}:Grow c (powZ c net a).2.1∧PInv (powZ c net a).2.1 (powZ c net a).2.2 b:=by
  have hinv:=h.inv.pow (a:=a)
  unfold powZ at hinv ⊢
  cases hp:powOk a
  · exact ⟨.refl c,h⟩
  · rw [hp,cond_true] at hinv
    unfold powOk at hp
    simp only [Bool.and_eq_true,decide_eq_true_eq] at hp
    obtain ⟨⟨h0,h6⟩,hm⟩:=hp
    have hn:a.n.toNat<6:=by omega
    rw [cond_true]
    cases hd:(!(vget c.down a.n.toNat==(a.kind==8)))
    · rw [hd,cond_false] at hinv
      rw [cond_false]
      cases h7:(a.kind==7)
      · rw [cond_false]
        cases (a.kind==6)
        · exact h.riseG hn
        · exact h.fallG hn
      · rw [h7,cond_true] at hinv
        exact h.keepG hinv rfl rfl rfl rfl rfl
    · exact ⟨.refl c,h⟩
theorem enc_read {f:GFrame} (h:frameZ f=0):(decZ (byL (encP f).1)).1=f:=by
  obtain ⟨_,e,_⟩:=dec_enc h
  rw [e]
theorem PInv.frm2G {c:GCluster} {net:List ByteArray} {b:Nat} (h:PInv c net b) (hb:b≤60000) {kind:Int} {f:GFrame} (hf:NetF c f) :
    (Grow c (frm2 c net kind f (encP f).1).2.1∧PInv (frm2 c net kind f (encP f).1).2.1 (frm2 c net kind f (encP f).1).2.2 (b+102))∧((frm2 c net kind f (encP f).1).1.code=0∨(frm2 c net kind f (encP f).1).1.code=6):=by
  obtain ⟨hkr,hn,hid⟩:=frameZ_in hf.good
  unfold Go.Proofs.Yteilffoclpgijaa.frm2
  cases (kind==4)
  · rw [cond_false]
    cases hk:(f.kind==1||f.kind==3)
    · rw [cond_false]
      simp only [Bool.or_eq_false_iff,beq_eq_false_iff_ne,ne_eq] at hk
      obtain ⟨h0,hg,hp⟩:=h.takeG hf (by omega)
      rw [bif_f (by simp [h0])]
      exact ⟨⟨hg,hp.mono (by omega)⟩,.inl rfl⟩
    · rw [cond_true]
      simp only [Bool.or_eq_true,beq_iff_eq] at hk
      obtain ⟨hp,h0⟩:=h.comeG hb (n:=f.node.toNat) (by omega) hf (by omega) hk
      refine ⟨hp,?_⟩
      dsimp only
      rcases h0 with h0 | h0
      · rw [bif_f (by simp [h0])];exact .inl rfl
      · rw [bif_t (by simp [h0])];exact .inr h0
  · exact ⟨⟨.refl c,h.mono (by omega)⟩,.inl rfl⟩
theorem PInv.text {c:GCluster} {net:List ByteArray} {b:Nat} (h:PInv c net b) {x:Int} (hx:0≤x∧x<net.length):NetF c (frameAt net x)∧textAt net x=(encP (frameAt net x)).1:=by
  have hlt:x.toNat<net.length:=by omega
  have e:textAt net x=net[x.toNat]:=by
    unfold textAt
    rw [List.getElem?_eq_getElem hlt]
    rfl
  obtain ⟨f,e1,hf⟩:=h.net _ (List.getElem_mem hlt)
  have e2:frameAt net x=f:=by
    unfold frameAt
    rw [e,e1,enc_read hf.good]
  rw [e2,e,e1]
  exact ⟨hf,rfl⟩
theorem PInv.frmG {c:GCluster} {net:List ByteArray} {b:Nat} (h:PInv c net b) (hb:b≤60000) {a:GAct}:(Grow c (frmZ c net a).2.1∧PInv (frmZ c net a).2.1 (frmZ c net a).2.2 (b+102))∧((frmZ c net a).1.code=0∨(frmZ c net a).1.code=6∨(frmZ c net a).1=errR 4∧(frmZ c net a).2=(c,net)):=by
  unfold frmZ
  by_cases hx:0≤a.n∧a.n<net.length
  · rw [bif_t (dec_t hx)]
    obtain ⟨hf,e⟩:=h.text hx
    rw [e]
    have hp:PInv c (bif a.kind==3 then net else net.eraseIdx a.n.toNat) b:=by
      cases (a.kind==3)
      · exact h.cut (fun s hs=>List.mem_of_mem_eraseIdx hs) (List.length_eraseIdx_le ..)
      · exact h
    obtain ⟨h1,h2⟩:=hp.frm2G hb (kind:=a.kind) hf
    exact ⟨h1,h2.imp_right .inl⟩
  · rw [bif_f (dec_f hx)]
    exact ⟨⟨.refl c,h.mono (by omega)⟩,.inr (.inr ⟨rfl,rfl⟩)⟩
theorem PInv.frm {c:GCluster} {net:List ByteArray} {b:Nat} (h:PInv c net b) (hb:b≤60000) {a:GAct}:PInv (frmZ c net a).2.1 (frmZ c net a).2.2 (b+102)∧((frmZ c net a).1.code=0∨(frmZ c net a).1.code=6∨(frmZ c net a).1=errR 4∧(frmZ c net a).2=(c,net)):=⟨(h.frmG hb).1.2,(h.frmG hb).2⟩
theorem PInv.aga {c:GCluster} {net:List ByteArray} {b:Nat} (h:PInv c net b) {a:GAct}:PInv (agaZ c net a).2.1 (agaZ c net a).2.2 b:=by
  unfold agaZ
  by_cases hx:0≤a.n∧a.n<c.begun
  · have:=h.inv.begun.2
    have hi:a.n.toNat<32:=by omega
    have e:((a.n.toNat:Nat):Int)=a.n:=by omega
    rw [bif_t (dec_t hx)]
    refine h.send _ fun f hf hz=>againC_net hi ?_ f (by rw [e];exact hf) hz
    rw [h.cnt _ hi,decide_eq_true_eq]
    omega
  · rw [bif_f (dec_f hx)]
    exact h
theorem PInv.actsG {c:GCluster} {net:List ByteArray} {b:Nat} (h:PInv c net b) (ha : ¬ c.acts≥400):Grow c { c with acts:=c.acts+1 }∧PInv { c with acts:=c.acts+1 } net b :=
  h.keepG (h.inv.act ha) rfl rfl rfl rfl rfl
theorem PInv.acts {c:GCluster} {net:List ByteArray} {b:Nat} (h:PInv c net b) (ha : ¬ c.acts≥400):PInv { c with acts:=c.acts+1 } net b:=(h.actsG ha).2
theorem aga_same {c:GCluster} {net:List ByteArray} {a:GAct}:(agaZ c net a).2.1=c:=by
  unfold agaZ
  cases decide (0≤a.n∧a.n<c.begun)<;>rfl
theorem PInv.doAG {c:GCluster} {net:List ByteArray} {b:Nat} (h:PInv c net b) (hb:b≤60000) {a:GAct}:Grow c (doA c net a).2.1∧PInv (doA c net a).2.1 (doA c net a).2.2 (b+102):=by
  unfold Go.Proofs.Yteilffoclpgijaa.doA
  cases (a.kind==1)
  · rw [cond_false]
    cases (a.kind==2||(a.kind==3||a.kind==4))
    · rw [cond_false]
      cases (a.kind==5)
      · rw [cond_false]
        cases (a.kind==6||(a.kind==7||a.kind==8))
        · exact ⟨.refl c,h.mono (by omega)⟩
        · exact ⟨h.powG.1,h.powG.2.mono (by omega)⟩
      · refine ⟨?_,h.aga.mono (by omega)⟩
        rw [cond_true,aga_same]
        exact .refl c
    · exact (h.frmG hb).1
  · exact ⟨h.beginG.1,h.beginG.2.mono (by omega)⟩
theorem Grow.of_acts {c d:GCluster} {k:Int} (h:Grow { c with acts:=k } d):Grow c d:=⟨h.cas,h.durs⟩
theorem PInv.actG {c:GCluster} {net:List ByteArray} {b:Nat} (h:PInv c net b) (hb:b≤60000) {a:GAct}:Grow c (actZ c net a).2.1∧PInv (actZ c net a).2.1 (actZ c net a).2.2 (b+102):=by
  unfold actZ
  by_cases ha:c.acts≥400
  · rw [bif_t (dec_t ha)];exact ⟨.refl c,h.mono (by omega)⟩
  · rw [bif_f (dec_f ha)]
    have h2:=(h.actsG ha).2.doAG hb (a:=a)
    exact ⟨h2.1.of_acts,h2.2⟩
theorem PInv.act {c:GCluster} {net:List ByteArray} {b:Nat} (h:PInv c net b) (hb:b≤60000) {a:GAct}:PInv (actZ c net a).2.1 (actZ c net a).2.2 (b+102):=(h.actG hb).2
theorem new_case (i:Nat):vget newCl.cases i=noC:=vget_zero i
theorem new_log (i:Nat):vget newCl.logs i=⟨#[]⟩:=vget_zero i
theorem new_dur (n:Nat):dur newCl n=zeroN:=by
  unfold dur
  rw [new_log,readL_short (by simp)]
  rfl
theorem new_pinv:PInv newCl [] 0:=by
  refine ⟨new_inv,fun i _ => ?_,fun n _ => ?_,fun n _ _=>⟨?_,?_⟩,fun n _ => ?_,fun s hs=>absurd hs List.not_mem_nil,fun n _ => ?_,fun i _ hb => ?_⟩
  · rw [new_case,dec_f (show ¬ ((i:Int)<newCl.begun) by show ¬ ((i:Int)<0);omega)]
    rfl
  · show (replayZ n (readL (vget newCl.logs n).data.toList).1 zeroN).2=0
    rw [new_log,readL_short (by simp)]
    rfl
  · rw [new_dur]
    show vget (Zr.zd:Vector GNode 6) n=_
    rw [vget_zero]
    rfl
  · show (readL (vget newCl.logs n).data.toList).2=(vget newCl.logs n).size
    rw [new_log,readL_short (by simp)]
    rfl
  · rw [new_log]
    exact Nat.le_refl _
  · rw [new_dur]
    exact zero_nodeP _ _
  · rw [new_case] at hb
    cases hb
theorem goZ_pinv : ∀ (l:List GAct) {c:GCluster} {net:List ByteArray} {b:Nat},PInv c net b→b+102*l.length≤60000→PInv (goZ c net l).2.1 (goZ c net l).2.2 (b+102*l.length)
  | [],_,_,_,h,_=>h
  | a::t,_,_,b,h,hb=>by
    simp only [List.length_cons] at hb ⊢
    exact (goZ_pinv t (h.act (by omega) (a:=a)) (by omega)).mono (by omega)
end Go.Proofs.Yteilffoclpgijaa
namespace Go.Proofs.Yteilffoclpgijaa
open Go.RowKit
open Rep (rep)
theorem played (l:List GAct):PInv (goZ newCl [] (l.take 150)).2.1 (goZ newCl [] (l.take 150)).2.2 15300:=by
  have hlen:(l.take 150).length≤150:=by rw [List.length_take];omega
  exact (goZ_pinv (l.take 150) new_pinv (by omega)).mono (by omega)
theorem played_acts (l:List GAct):(goZ newCl [] (l.take 150)).2.1.acts≤150:=by
  have hlen:(l.take 150).length≤150:=by rw [List.length_take];omega
  have h:=goZ_acts (l.take 150) newCl [] (by show (0:Int)+_≤400;omega)
  rw [h]
  show (0:Int)+_≤150
  omega
theorem cnt3_two {v w:Vector Bool 6} {k:Nat} (h1:2≤cnt3 v k) (h2:2≤cnt3 w k) : ∃ j,j<3∧hasAt v (k+j)=true∧hasAt w (k+j)=true:=by
  unfold cnt3 at h1 h2
  have e0:hasAt v k=hasAt v (k+0):=rfl
  have e1:hasAt w k=hasAt w (k+0):=rfl
  rw [e0] at h1
  rw [e1] at h2
  by_cases a0:hasAt v (k+0)=true∧hasAt w (k+0)=true
  · exact ⟨0,by omega,a0⟩
  by_cases a1:hasAt v (k+1)=true∧hasAt w (k+1)=true
  · exact ⟨1,by omega,a1⟩
  by_cases a2:hasAt v (k+2)=true∧hasAt w (k+2)=true
  · exact ⟨2,by omega,a2⟩
  exfalso
  revert h1 h2 a0 a1 a2
  cases hasAt v (k+0)<;>cases hasAt v (k+1)<;>cases hasAt v (k+2)<;>cases hasAt w (k+0)<;>cases hasAt w (k+1)<;>cases hasAt w (k+2)<;>decide
theorem PInv.meet {c:GCluster} {net:List ByteArray} {b:Nat} (h:PInv c net b) {i j:Nat} (hi:i<32) (hj:j<32) (hij:i≠j) (hbi:(vget c.cases i).begun=true) (hbj:(vget c.cases j).begun=true) (hfi:(vget c.cases i).fixed=true) (hfj:(vget c.cases j).fixed=true) {s:Nat} (hs:s<2)
    (hc:conflictZ (vget c.cases i).ops (vget c.cases j).ops (s:Int)=true) : ∃ k:Nat,k<6∧ofZ k=(s:Int)∧hasAt (vget c.cases i).told k=true∧hasAt (vget c.cases j).told k=true∧(((j:Nat):Int)∈(eat (dur c k).entries i).first∨((i:Nat):Int)∈(eat (dur c k).entries j).first):=by
  have hpi:=h.cas i hi hbi
  have hpj:=h.cas j hj hbj
  obtain ⟨t1,t2⟩:=conflict_touches _ _ _ hc
  have e1:=hpi.fix hfi
  have e2:=hpj.fix hfj
  unfold enoughC at e1 e2
  have hcnt:2≤cnt3 (vget c.cases i).told (3*s)∧2≤cnt3 (vget c.cases j).told (3*s):=by
    have:s=0∨s=1:=by omega
    rcases this with rfl | rfl
    · have t1:touchesZ (vget c.cases i).ops 0=true:=t1
      have t2:touchesZ (vget c.cases j).ops 0=true:=t2
      rw [t1] at e1
      rw [t2] at e2
      simp only [Bool.not_true,Bool.false_or,Bool.and_eq_true,decide_eq_true_eq] at e1 e2
      exact ⟨e1.1,e2.1⟩
    · have t1:touchesZ (vget c.cases i).ops 1=true:=t1
      have t2:touchesZ (vget c.cases j).ops 1=true:=t2
      rw [t1] at e1
      rw [t2] at e2
      simp only [Bool.not_true,Bool.false_or,Bool.and_eq_true,decide_eq_true_eq] at e1 e2
      exact ⟨e1.2,e2.2⟩
  obtain ⟨d,hd,k1,k2⟩:=cnt3_two hcnt.1 hcnt.2
  have hk6:3*s+d<6:=by omega
  have hof:ofZ ((3*s+d:Nat):Int)=(s:Int):=by
    unfold ofZ
    split<;>omega
  obtain ⟨u1,_⟩:=hpi.told _ hk6 k1
  obtain ⟨u2,_⟩:=hpj.told _ hk6 k2
  have hn:=h.node _ hk6
  refine ⟨3*s+d,hk6,hof,k1,k2,hn.way i j hi hj hij u1 u2 ?_⟩
  rw [hof,(hn.beg i hi u1).2,(hn.beg j hj u2).2]
  exact hc
theorem goodC_fixed {c:GCase} (h:goodC c=true) (hf:c.fixed=true):c.begun=true:=by
  unfold goodC at h
  cases hb:c.begun
  · rw [hb,cond_false,hf] at h
    cases h
  · rfl
theorem PInv.ahead {c:GCluster} {net:List ByteArray} {b:Nat} (h:PInv c net b) {i j:Nat} (hi:i<32) (hj:j<32) (hij:i≠j) (hfi:(vget c.cases i).fixed=true) (hfj:(vget c.cases j).fixed=true) (hc:(conflictZ (vget c.cases i).ops (vget c.cases j).ops 0||conflictZ (vget c.cases i).ops (vget c.cases j).ops 1)=true) :
    ((j:Nat):Int)∈(vget c.cases i).deps∨((i:Nat):Int)∈(vget c.cases j).deps:=by
  have hbi:=goodC_fixed (h.inv.cas i hi) hfi
  have hbj:=goodC_fixed (h.inv.cas j hj) hfj
  have : ∃ s:Nat,s<2∧conflictZ (vget c.cases i).ops (vget c.cases j).ops (s:Int)=true:=by
    rw [Bool.or_eq_true] at hc
    rcases hc with hc | hc
    · exact ⟨0,by omega,hc⟩
    · exact ⟨1,by omega,hc⟩
  obtain ⟨s,hs,hc⟩:=this
  obtain ⟨k,hk,_,k1,k2,hm⟩:=h.meet hi hj hij hbi hbj hfi hfj hs hc
  rcases hm with hm | hm
  · exact .inl (((h.cas i hi hbi).told k hk k1).2 _ hm)
  · exact .inr (((h.cas j hj hbj).told k hk k2).2 _ hm)
theorem pick_six (x:Int) : ∃ k:Nat,k<6∧Int.tmod (IntKind.wrap .i64 ((Int.tmod x 6)+6)) 6=(k:Int):=by
  have h1:=Int.tmod_lt_of_pos x (show (0:Int)<6 by omega)
  have h2 : -(6:Int)<Int.tmod x 6:=Int.lt_tmod_of_pos x (by omega)
  rw [wr64 (by omega) (by omega)]
  have h3:=Int.tmod_nonneg (6:Int) (show 0≤Int.tmod x 6+6 by omega)
  have h4:=Int.tmod_lt_of_pos (Int.tmod x 6+6) (show (0:Int)<6 by omega)
  exact ⟨(Int.tmod (Int.tmod x 6+6) 6).toNat,by omega,by omega⟩
theorem act_crash {c:GCluster} {net:List ByteArray} (ha:c.acts<400) {k:Nat} (hk:k<6) (hd:vget c.down k=false):actZ c net { kind:=6,n:=k,m:=0,ops:=[] }=(errR 0,fallZ { c with acts:=c.acts+1 } k,net):=by
  unfold actZ
  rw [bif_f (dec_f (by omega))]
  show powZ { c with acts:=c.acts+1 } net { kind:=6,n:=k,m:=0,ops:=[] }=_
  unfold powZ powOk
  rw [bif_t (by rw [dec_t (show (0:Int)≤k∧(k:Int)<6 by omega)];rfl)]
  rw [Int.toNat_natCast,hd]
  rfl
theorem act_rise {c:GCluster} {net:List ByteArray} (ha:c.acts<400) {k:Nat} (hk:k<6) (hd:vget c.down k=true):actZ c net { kind:=8,n:=k,m:=0,ops:=[] }=(errR 0,riseZ { c with acts:=c.acts+1 } k,net):=by
  unfold actZ
  rw [bif_f (dec_f (by omega))]
  show powZ { c with acts:=c.acts+1 } net { kind:=8,n:=k,m:=0,ops:=[] }=_
  unfold powZ powOk
  rw [bif_t (by rw [dec_t (show (0:Int)≤k∧(k:Int)<6 by omega)];rfl)]
  rw [Int.toNat_natCast,hd]
  rfl
theorem topWakesD_eq {fu:Nat} (hfu:fu=70000) {l:List GAct} (hl:l.length≤17592186043904) (x:Int):topWakesD fu l x=some true:=by
  have hp:=played l
  have hact:=played_acts l
  obtain ⟨k,hk,e⟩:=pick_six x
  unfold topWakesD
  rw [playQD_eq hfu hl,some_bind,bif_f (c := !true) rfl,e]
  generalize (goZ newCl [] (l.take 150)).2.1=c at hp hact
  generalize (goZ newCl [] (l.take 150)).2.2=net at hp
  rw [clNodeD_eq (by omega) hp.inv (by omega) (by omega),some_bind,some_bind,Int.toNat_natCast]
  cases hd:vget c.down k
  · have e1:({ kind:=6,n:=(k:Int),m:=Zr.zd,ops:=Zr.zd }:GAct)={ kind:=6,n:=k,m:=0,ops:=[] }:=rfl
    have e2:({ kind:=8,n:=(k:Int),m:=Zr.zd,ops:=Zr.zd }:GAct)={ kind:=8,n:=k,m:=0,ops:=[] }:=rfl
    have hac:=act_crash (c:=c) (net:=net) (by omega) hk hd
    have hi1:=hp.inv.do (a:={ kind:=6,n:=k,m:=0,ops:=[] })
    have ha1:=actZ_acts (c:=c) (net:=net) (a:={ kind:=6,n:=k,m:=0,ops:=[] }) (by omega)
    rw [hac] at hi1 ha1
    dsimp only at ha1
    have hdn:vget (fallZ { c with acts:=c.acts+1 } k).down k=true:=by
      show vget (c.down.setIfInBounds k true) k=true
      rw [vget_set hk,if_pos rfl]
    have hri:=act_rise (c:=fallZ { c with acts:=c.acts+1 } k) (net:=net) (by omega) hk hdn
    have hi2:=hi1.do (a:={ kind:=8,n:=k,m:=0,ops:=[] })
    rw [hri] at hi2
    have hnode:vget (riseZ { fallZ { c with acts:=c.acts+1 } k with acts:=(fallZ { c with acts:=c.acts+1 } k).acts+1 } k).nodes k=vget c.nodes k:=by
      rw [(hp.up k hk hd).1]
      show vget ((c.nodes.setIfInBounds k zeroN).setIfInBounds k _) k=_
      rw [vget_set hk,if_pos rfl]
      rfl
    have hdown:vget (riseZ { fallZ { c with acts:=c.acts+1 } k with acts:=(fallZ { c with acts:=c.acts+1 } k).acts+1 } k).down k=false:=by
      show vget ((c.down.setIfInBounds k true).setIfInBounds k false) k=false
      rw [vget_set hk,if_pos rfl]
    rw [cond_false,some_bind,e1,clDoD_eq (by omega) hp.inv,some_bind,hac,bif_f (by rfl),some_bind,e2,clDoD_eq (by omega) hi1,some_bind,hri]
    unfold topWakes_j3
    rw [bif_f (by rfl)]
    unfold topWakes_j1
    rw [e,clNodeD_eq (by omega) hi2 (by omega) (by omega),some_bind,some_bind,Int.toNat_natCast]
    dsimp only
    rw [hdown,hnode,bif_t (by rfl),topSameNodeD_refl (hp.inv.node k hk).sizes (by omega),some_bind]
    rfl
  · have ez:({ entries:=Zr.zd,order:=Zr.zd,values:=Zr.zd }:GNode)=zeroN:=rfl
    have hsz:=(hp.inv.node k hk).sizes
    rw [hp.inv.down k hk hd] at hsz ⊢
    rw [cond_true,some_bind,ez,topSameNodeD_refl hsz (by omega),some_bind]
end Go.Proofs.Yteilffoclpgijaa
namespace Go.Proofs.Yteilffoclpgijaa
open Go.RowKit
open Rep (rep)
theorem op3:Opn Try.prog 3 Int:=opn_int Try.underlying3 (by kernel_rfl)
theorem op65:Opn Try.prog 65 GOp:=⟨by kernel_rfl,fun H enc w fuel cs d p h hw=>by
  have hl:cs.length=3:=by obtain ⟨_,_,_,_,hl,_⟩:=DataW.trod_struct Try.underlying65 h;rw [hl];kernel_rfl
  obtain ⟨x0,h0⟩:=opn_field (α := Int) (o:=0) (k:=1) Try.underlying65 h hw 0 _ rfl rfl rfl (by kernel_rfl) op3
  obtain ⟨x1,h1⟩:=opn_field (α := Int) (o:=1) (k:=1) Try.underlying65 h hw 1 _ rfl rfl rfl (by kernel_rfl) op3
  obtain ⟨x2,h2⟩:=opn_field (α := Int) (o:=2) (k:=1) Try.underlying65 h hw 2 _ rfl rfl rfl (by kernel_rfl) op3
  exact ⟨⟨x0,x1,x2⟩,GOp.fol ⟨hl,h0,h1,h2⟩⟩⟩
theorem op27:Opn Try.prog 27 (List (GOp)):=opn_slice Try.underlying27 (by kernel_rfl) op65 (by decide) (by kernel_rfl)
theorem op43:Opn Try.prog 43 GAct:=⟨by kernel_rfl,fun H enc w fuel cs d p h hw=>by
  have hl:cs.length=4:=by obtain ⟨_,_,_,_,hl,_⟩:=DataW.trod_struct Try.underlying43 h;rw [hl];kernel_rfl
  obtain ⟨x0,h0⟩:=opn_field (α := Int) (o:=0) (k:=1) Try.underlying43 h hw 0 _ rfl rfl rfl (by kernel_rfl) op3
  obtain ⟨x1,h1⟩:=opn_field (α := Int) (o:=1) (k:=1) Try.underlying43 h hw 1 _ rfl rfl rfl (by kernel_rfl) op3
  obtain ⟨x2,h2⟩:=opn_field (α := Int) (o:=2) (k:=1) Try.underlying43 h hw 2 _ rfl rfl rfl (by kernel_rfl) op3
  obtain ⟨x3,h3⟩:=opn_field (α := List (GOp)) (o:=3) (k:=1) Try.underlying43 h hw 3 _ rfl rfl rfl (by kernel_rfl) op27
  exact ⟨⟨x0,x1,x2,x3⟩,GAct.fol ⟨hl,h0,h1,h2,h3⟩⟩⟩
theorem op22:Opn Try.prog 22 (List (GAct)):=opn_slice Try.underlying22 (by kernel_rfl) op43 (by decide) (by kernel_rfl)
end Go.Proofs.Yteilffoclpgijaa
