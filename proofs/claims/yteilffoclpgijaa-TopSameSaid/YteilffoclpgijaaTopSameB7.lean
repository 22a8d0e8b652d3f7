/- What the proof of TopSame rests on, part 7: rules of walks, what functions compute, and plain laws of it. -/
import Derived.Test.YteilffoclpgijaaTopSameB6
namespace Go.Proofs.Yteilffoclpgijaa
open Go.RowKit
open Rep (rep)
theorem takeC_takes {c:GCase} {id:Int} {f:GFrame} (h:(takeC c id f).2.2=0):takes c id f=true:=by
  unfold takeC at h
  cases ht:takes c id f
  · rw [ht] at h
    exact absurd (show (2:Int)=0 from h) (by decide)
  · rfl
theorem takeC_no {c:GCase} {id:Int} {f:GFrame} (h:(takeC c id f).2.2≠0):(takeC c id f).1=c∧(takeC c id f).2.1=[]:=by
  unfold takeC at *
  cases ht:takes c id f
  · exact ⟨rfl,rfl⟩
  · rw [ht,cond_true] at h
    rw [cond_true]
    cases hz:(frameZ f==0)
    · exact ⟨rfl,rfl⟩
    · rw [hz,cond_true] at h
      rw [cond_true]
      unfold takeOk at *
      cases h2:(f.kind==2)
      · rw [h2,cond_false] at h
        rw [cond_false]
        cases h4:(f.kind==4)
        · rw [h4,cond_false] at h
          rw [cond_false]
          cases h5:(f.kind==5)
          · exact ⟨rfl,rfl⟩
          · rw [h5,cond_true] at h
            cases hf:c.fixed
            · exact ⟨rfl,rfl⟩
            · rw [hf] at h;exact absurd rfl h
        · rw [h4,cond_true] at h
          cases hf:c.fixed
          · exact ⟨rfl,rfl⟩
          · rw [hf] at h;exact absurd rfl h
      · rw [h2,cond_true] at h
        cases hb:(c.fixed||(hasAt c.told f.node.toNat || !touchesZ c.ops (ofZ f.node)))
        · rw [hb] at h;exact absurd rfl h
        · exact ⟨rfl,rfl⟩
theorem goodC_parts {c:GCase} (h:goodC c=true) (hb:c.begun=true):goodOpsZ c.ops=true∧risingZ c.deps=true:=by
  unfold goodC at h
  rw [hb,cond_true,Bool.and_eq_true] at h
  exact h
theorem goodC_mk {c:GCase} (hb:c.begun=true) (h1:goodOpsZ c.ops=true) (h2:risingZ c.deps=true):goodC c=true:=by
  unfold goodC
  rw [hb,cond_true,h1,h2]
  rfl
theorem takeC_good {c:GCase} {id:Int} {f:GFrame} (h:goodC c=true):goodC (takeC c id f).1=true:=by
  by_cases hz:(takeC c id f).2.2=0
  · have ht:=takeC_takes hz
    unfold takes at ht
    simp only [Bool.and_eq_true] at ht
    have hb:=ht.2.1
    obtain ⟨h1,h2⟩:=goodC_parts h hb
    obtain ⟨_,e | ⟨_,e⟩ | ⟨_,e⟩ | ⟨_,e⟩⟩:=takeC_kinds hz
    · rw [e];exact h
    · rw [e];exact goodC_mk hb h1 (union_rising _ _)
    · rw [e];exact goodC_mk hb h1 h2
    · rw [e,goodC_same doneL_same.2.2.1 doneL_same.1 doneL_same.2.2.2.1 hb];exact h
  · rw [(takeC_no hz).1];exact h
theorem noC_good:goodC noC=true:=by decide +kernel
theorem beginC_good (t:GTxn):goodC (beginC t).1=true:=by
  unfold beginC
  cases decide (0≤t.id∧t.id<32)
  · exact noC_good
  · cases h:goodOpsZ t.ops
    · exact noC_good
    · exact goodC_mk rfl h (show risingZ []=true by decide)
theorem CInv.sent {c:GCluster} {net:List ByteArray} (h:CInv c net) (l:List GFrame):CInv c (sendZ net l) :=
  ⟨h.acts,h.begun,h.node,h.down,h.log,h.tear,h.cas,sendZ_small l net h.net.1 h.net.2⟩
theorem CInv.setCase {c:GCluster} {net:List ByteArray} (h:CInv c net) {n:Nat} (hn:n<32) {x:GCase} (hx:goodC x=true):CInv { c with cases:=c.cases.setIfInBounds n x } net:=by
  refine ⟨h.acts,h.begun,h.node,h.down,h.log,h.tear,fun k hk => ?_,h.net⟩
  show goodC (vget (c.cases.setIfInBounds n x) k)=true
  rw [vget_set hn]
  by_cases e:n=k
  · rw [if_pos e];exact hx
  · rw [if_neg e];exact h.cas k hk
theorem CInv.setLog {c:GCluster} {net:List ByteArray} (h:CInv c net) {n:Nat} (hn:n<6) {x:ByteArray} (hx:x.size≤65536):CInv { c with logs:=c.logs.setIfInBounds n x } net:=by
  refine ⟨h.acts,h.begun,h.node,h.down,fun k hk => ?_,h.tear,h.cas,h.net⟩
  show (vget (c.logs.setIfInBounds n x) k).size≤65536
  rw [vget_set hn]
  by_cases e:n=k
  · rw [if_pos e];exact hx
  · rw [if_neg e];exact h.log k hk
theorem CInv.setTear {c:GCluster} {net:List ByteArray} (h:CInv c net) {n:Nat} (hn:n<6) {x:Int} (hx:0≤x∧x≤401):CInv { c with tear:=c.tear.setIfInBounds n x } net:=by
  refine ⟨h.acts,h.begun,h.node,h.down,h.log,fun k hk => ?_,h.cas,h.net⟩
  show 0≤vget (c.tear.setIfInBounds n x) k∧vget (c.tear.setIfInBounds n x) k≤401
  rw [vget_set hn]
  by_cases e:n=k
  · rw [if_pos e];exact hx
  · rw [if_neg e];exact h.tear k hk
theorem CInv.setNode {c:GCluster} {net:List ByteArray} (h:CInv c net) {n:Nat} (hn:n<6) {x:GNode} {b:Bool} (hx:GoodN x) (hb:b=true→x=zeroN):CInv { c with nodes:=c.nodes.setIfInBounds n x,down:=c.down.setIfInBounds n b } net:=by
  refine ⟨h.acts,h.begun,fun k hk => ?_,fun k hk => ?_,h.log,h.tear,h.cas,h.net⟩
  · show GoodN (vget (c.nodes.setIfInBounds n x) k)
    rw [vget_set hn]
    by_cases e:n=k
    · rw [if_pos e];exact hx
    · rw [if_neg e];exact h.node k hk
  · show vget (c.down.setIfInBounds n b) k=true→vget (c.nodes.setIfInBounds n x) k=zeroN
    rw [vget_set hn,vget_set hn]
    by_cases e:n=k
    · rw [if_pos e,if_pos e];exact hb
    · rw [if_neg e,if_neg e];exact h.down k hk
theorem CInv.fall {c:GCluster} {net:List ByteArray} (h:CInv c net) {n:Nat} (hn:n<6):CInv (fallZ c n) net :=
  (h.setNode hn (b:=true) zero_good fun _=>rfl).setTear hn ⟨by omega,by omega⟩
theorem set_down_same {c:GCluster} {n:Nat} {b:Bool} (h:vget c.down n=b) (hn:n<6):c.down.setIfInBounds n b=c.down:=by
  refine Vector.ext fun i hi => ?_
  rw [Vector.getElem_setIfInBounds]
  by_cases e:n=i
  · subst e
    rw [if_pos rfl,← h]
    unfold vget
    simp [hi]
  · rw [if_neg e]
theorem CInv.come {c:GCluster} {net:List ByteArray} (h:CInv c net) {n:Nat} (hn:n<6) {f:GFrame} {s:ByteArray}:CInv (comeZ c net n f s).2.1 (comeZ c net n f s).2.2:=by
  have hlog:=h.log n hn
  unfold comeZ
  cases hd:vget c.down n
  · rw [cond_false]
    cases h1:((takeN (vget c.nodes n) n f).2.2 != 0)
    · have h1:(takeN (vget c.nodes n) n f).2.2=0:=by simpa using h1
      rw [cond_false]
      by_cases h2:vget c.tear n>0
      · rw [bif_t (dec_t h2)]
        exact (h.setLog hn (tearZ_size hlog)).fall hn
      · rw [bif_f (dec_f h2)]
        cases h3:(wcode (vget c.logs n) s != 0)
        · have h':=((h.setLog hn (wout_size (s:=s) hlog)).setNode hn (x:=(takeN (vget c.nodes n) n f).1) (b:=false) (takeN_good h1) fun e=>by cases e).sent (takeN (vget c.nodes n) n f).2.1
          have e:=set_down_same hd hn
          have e:({ c with logs:=c.logs.setIfInBounds n (wout (vget c.logs n) s) }:GCluster).down.setIfInBounds n false=c.down:=e
          rw [e] at h'
          exact h'
        · exact h.setLog hn (wout_size hlog)
    · exact h
  · exact h
theorem CInv.beg {c:GCluster} {net:List ByteArray} (h:CInv c net) {ops:List GOp}:CInv (begZ c net ops).2.1 (begZ c net ops).2.2:=by
  obtain ⟨h0,h1⟩:=h.begun
  unfold begZ
  by_cases h32:c.begun≥32
  · rw [bif_t (dec_t h32)];exact h
  · rw [bif_f (dec_f h32)]
    cases hc:((beginC { id:=c.begun,ops:=ops }).2.2 != 0)
    · have h':=(h.setCase (n:=c.begun.toNat) (by omega) (beginC_good { id:=c.begun,ops:=ops })).sent (beginC { id:=c.begun,ops:=ops }).2.1
      exact ⟨h'.acts,⟨by show 0≤c.begun+1;omega,by show c.begun+1≤32;omega⟩,h'.node,h'.down,h'.log,h'.tear,h'.cas,h'.net⟩
    · exact h
theorem CInv.frm2 {c:GCluster} {net:List ByteArray} (h:CInv c net) {kind:Int} {f:GFrame} {s:ByteArray} (hn:0≤f.node∧f.node<6) (hi:0≤f.id∧f.id<32):CInv (frm2 c net kind f s).2.1 (frm2 c net kind f s).2.2:=by
  unfold Go.Proofs.Yteilffoclpgijaa.frm2
  cases (kind==4)
  · cases (f.kind==1||f.kind==3)
    · rw [cond_false,cond_false]
      cases ((takeC (vget c.cases f.id.toNat) f.id f).2.2 != 0)
      · exact (h.setCase (by omega) (takeC_good (h.cas _ (by omega)))).sent _
      · exact h
    · exact h.come (by omega)
  · exact h
theorem CInv.frm {c:GCluster} {net:List ByteArray} (h:CInv c net) {a:GAct}:CInv (frmZ c net a).2.1 (frmZ c net a).2.2:=by
  unfold frmZ
  obtain ⟨hn,hi⟩:=decZ_in (byL (textAt net a.n))
  cases decide (0≤a.n∧a.n<net.length)
  · exact h
  · rw [cond_true]
    refine CInv.frm2 ?_ hn hi
    cases (a.kind==3)
    · exact h.cut (fun s hs=>List.mem_of_mem_eraseIdx hs) (List.length_eraseIdx_le ..)
    · exact h
theorem CInv.pow {c:GCluster} {net:List ByteArray} (h:CInv c net) {a:GAct}:CInv (powZ c net a).2.1 (powZ c net a).2.2:=by
  unfold powZ
  cases hp:powOk a
  · exact h
  · unfold powOk at hp
    simp only [Bool.and_eq_true,decide_eq_true_eq] at hp
    obtain ⟨⟨h0,h6⟩,hm⟩:=hp
    have hn:a.n.toNat<6:=by omega
    rw [cond_true]
    cases (!(vget c.down a.n.toNat==(a.kind==8)))
    · rw [cond_false]
      cases h7:(a.kind==7)
      · rw [cond_false]
        cases (a.kind==6)
        · have hr:CInv (riseZ c a.n.toNat) net:=(h.setLog hn (x:=(vget c.logs a.n.toNat).extract 0 (readL (vget c.logs a.n.toNat).data.toList).2) (by have:=h.log _ hn;rw [ByteArray.size_extract];omega)).setNode hn (b:=false) (replayZ_good _ zero_good) fun e=>by cases e
          exact hr
        · exact h.fall hn
      · rw [h7] at hm
        simp only [Bool.true_and,Bool.not_not,decide_eq_true_eq] at hm
        exact h.setTear hn ⟨by omega,by omega⟩
    · exact h
theorem CInv.do {c:GCluster} {net:List ByteArray} (h:CInv c net) {a:GAct}:CInv (actZ c net a).2.1 (actZ c net a).2.2:=by
  unfold actZ
  by_cases ha:c.acts≥400
  · rw [bif_t (dec_t ha)];exact h
  · rw [bif_f (dec_f ha)]
    have hi:=h.act ha
    unfold doA
    cases (a.kind==1)
    · rw [cond_false]
      cases (a.kind==2||(a.kind==3||a.kind==4))
      · rw [cond_false]
        cases (a.kind==5)
        · rw [cond_false]
          cases (a.kind==6||(a.kind==7||a.kind==8))
          · exact hi
          · exact hi.pow
        · rw [cond_true]
          unfold agaZ
          cases decide (0≤a.n∧a.n<({ c with acts:=c.acts+1 }:GCluster).begun)
          · exact hi
          · exact hi.sent _
      · exact hi.frm
    · exact hi.beg
def newCl:GCluster:={ nodes:=Zr.zd,logs:=Zr.zd,down:=Zr.zd,tear:=Zr.zd,cases:=Zr.zd,begun:=Zr.zd,net:=Zr.zd,acts:=Zr.zd }
theorem clNewD_eq {fu:Nat}:clNewD fu=some (newCl,[]):=rfl
theorem new_inv:CInv newCl []:=by
  refine ⟨⟨by show (0:Int)≤0;omega,by show (0:Int)≤400;omega⟩,⟨by show (0:Int)≤0;omega,by show (0:Int)≤32;omega⟩,fun n _ => ?_,fun n _ _ => ?_,fun n _ => ?_,fun n _ => ?_,fun n _ => ?_,by simp,by simp⟩
  · show GoodN (vget (Zr.zd:Vector GNode 6) n)
    rw [vget_zero];exact zero_good
  · show vget (Zr.zd:Vector GNode 6) n=zeroN
    rw [vget_zero];rfl
  · show (vget (Zr.zd:Vector ByteArray 6) n).size≤65536
    rw [vget_zero]
    show (⟨#[]⟩:ByteArray).size≤65536
    decide
  · show 0≤vget (Zr.zd:Vector Int 6) n∧vget (Zr.zd:Vector Int 6) n≤401
    rw [vget_zero]
    exact ⟨by show (0:Int)≤0;omega,by show (0:Int)≤401;omega⟩
  · show goodC (vget (Zr.zd:Vector GCase 32) n)=true
    rw [vget_zero]
    exact noC_good
end Go.Proofs.Yteilffoclpgijaa
namespace Go.Proofs.Yteilffoclpgijaa
open Go.RowKit
theorem alive_k:aliveD 70000=some true:=by decide +kernel
end Go.Proofs.Yteilffoclpgijaa
namespace Go.Proofs.Yteilffoclpgijaa
open Go.RowKit
open Rep (rep)
theorem cloneOps_any {fu:Nat} {l:List GOp} (h:l.length*24≤140737488351232):cloneOpsD fu l=some l:=by
  have hb:Rep.bytes GOp=24:=rfl
  unfold cloneOpsD
  rw [app_ok (by rw [hb];simpa using h)]
  rfl
theorem ownedD_eq {fu N:Nat} {e:GEntry} (h:ESz e N):ownedD fu e=some e:=by
  unfold ownedD
  rw [cloneOps_any h.ops.2,some_bind,cloneIntsD_eq h.first.2,some_bind,cloneIntsD_eq h.deps.2,some_bind,cloneIntsD_eq h.at_.2,some_bind,cloneIntsD_eq h.values.2,some_bind]
  rfl
theorem clNode_l1_eq {fu N:Nat} {c:GCluster} {x:Int} (h0:0≤x) (h6:x<6) {s:GNode} (hs:NSz s N) : ∀ (n m k:Nat),k+m=32→m<n→clNode_l1 fu c x n s k=some (s,vget c.down x.toNat)
  | 0,m,k,_,h=>absurd h (by omega)
  | n+1,0,k,hk,_=>by rw [clNode_l1,bif_f (dec_f (by omega)),inR_ok h0 h6,some_bind,idxG h0 h6,some_bind,some_bind]
  | n+1,m+1,k,hk,hn=>by
    have hk32:k<32:=by omega
    rw [clNode_l1,bif_t (dec_t (by omega)),inR_ok (by omega) (by omega),some_bind,idxE hk32,some_bind,ownedD_eq (hs.ent k),some_bind,some_bind,some_bind,setE hk32,setI_same hk32,some_bind,some_bind,wrsB k (by omega)]
    exact clNode_l1_eq h0 h6 hs n m (k+1) (by omega) (by omega)
theorem clNodeD_eq {fu:Nat} (hfu:100≤fu) {c:GCluster} {net:List ByteArray} (h:CInv c net) {x:Int} (h0:0≤x) (h6:x<6):clNodeD fu c x=some (vget c.nodes x.toNat,vget c.down x.toNat):=by
  have hg:=h.node x.toNat (by omega)
  unfold clNodeD clNode_j2
  rw [bif_f (dec_f (by omega)),dec_f (by omega),cond_false,clNode_j1,inR_ok h0 h6,some_bind,idxG h0 h6,some_bind,some_bind,cloneIntsD_eq hg.sizes.order.2,some_bind,some_bind]
  exact clNode_l1_eq h0 h6 hg.sizes fu 32 0 (by omega) (by omega)
theorem goodC_sizes {c:GCase} (h:goodC c=true):c.ops.length≤4∧c.deps.length≤33:=by
  cases hb:c.begun
  · unfold goodC at h
    rw [hb] at h
    simp only [cond_false,Bool.and_eq_true,beq_iff_eq] at h
    omega
  · obtain ⟨h1,h2⟩:=goodC_parts h hb
    have:=goodOps_len h1
    have:=rising_len h2
    omega
theorem clCaseD_eq {fu:Nat} {c:GCluster} {net:List ByteArray} (h:CInv c net) {x:Int} (h0:0≤x) (h1:x<32):clCaseD fu c x=some (vget c.cases x.toNat):=by
  obtain ⟨g1,g2⟩:=goodC_sizes (h.cas x.toNat (by omega))
  unfold clCaseD clCase_j2
  rw [bif_f (dec_f (by omega)),dec_f (by omega),cond_false,clCase_j1,inR_ok h0 h1,some_bind,idxG h0 h1,some_bind,some_bind,cloneOps_any (by omega),some_bind,cloneIntsD_eq (by omega),some_bind,some_bind,some_bind,some_bind]
structure Alike (c d:GCluster):Prop where
  nodes:c.nodes=d.nodes
  down:c.down=d.down
  logs:c.logs=d.logs
  cases:c.cases=d.cases
theorem Alike.refl (c:GCluster):Alike c c:=⟨rfl,rfl,rfl,rfl⟩
end Go.Proofs.Yteilffoclpgijaa
namespace Go.Proofs.Yteilffoclpgijaa
open Go.RowKit
open Rep (rep)
def Rb (P:Nat→Nat→Bool) (a b:Nat):Prop:=P a b=true→P b a=true∧a<b
theorem ringO_pw {P:Nat→Nat→Bool} (hP:Pre P) (c:Nat):(ringO P c).Pairwise (Rb P):=by
  have h:(ringO P c).Pairwise (· < ·):=List.Pairwise.filter _ List.pairwise_lt_range
  refine h.imp_of_mem fun {a b} ha hb hab=>fun _=>⟨?_,hab⟩
  exact hP.trans _ _ _ (mem_ringO.1 hb).2.2 (mem_ringO.1 ha).2.1
theorem orderF_pw {P:Nat→Nat→Bool} {n:Nat} (hP:Pre P) (hn:n<32) : ∀ (k:Nat) (out:List Nat),OKO P n out→out.Pairwise (Rb P)→(orderF P n k out).Pairwise (Rb P)
  | 0,out,_,hb=>hb
  | k+1,out,h,hb=>by
    unfold orderF
    cases hc:nextO P n out with
    | none=>exact hb
    | some c =>
      refine orderF_pw hP hn k _ (h.step hP hn hc) ?_
      obtain ⟨hc32,hcand,_⟩:=nextO_some hc
      rw [candO_iff] at hcand
      refine List.pairwise_append.2 ⟨hb,ringO_pw hP c,fun a ha b hb hab => ?_⟩
      exact absurd (h.dc b (h.dc a ha b hab) c (mem_ringO.1 hb).2.2) hcand.2.1
theorem orderS_pw {P:Nat→Nat→Bool} {n:Nat} (hP:Pre P) (hn:n<32):(orderS P n).Pairwise (Rb P):=orderF_pw hP hn 32 [] OKO.nil .nil
structure Srt (s:GNode):Prop where
  clo : ∀ n:Nat,(n:Int)∈s.order → ∀ d,pathB (graphZ s) n d=true→(d:Int)∈s.order
  ord:s.order.Pairwise (fun a b=>Rb (pathB (graphZ s)) a.toNat b.toNat)
theorem path_eq {E E':Nat→Nat→Prop} {S:Nat→Prop} (hS : ∀ a b,S a→E a b→S b) (hE : ∀ a b,S a→(E a b↔E' a b)) {n d:Nat} (hn:S n):Path E n d↔Path E' n d:=by
  constructor
  · intro h
    have:Path E' n d∧S d:=by
      induction h with
      | refl=>exact ⟨.refl n,hn⟩
      | tail _ e ih=>exact ⟨.tail ih.1 ((hE _ _ ih.2).1 e),hS _ _ ih.2 e⟩
    exact this.1
  · intro h
    have:Path E n d∧S d:=by
      induction h with
      | refl=>exact ⟨.refl n,hn⟩
      | tail _ e ih =>
        have e':=(hE _ _ ih.2).2 e
        exact ⟨.tail ih.1 e',hS _ _ ih.2 e'⟩
    exact this.1
theorem Srt.of {s t:GNode} (h:Srt s) (hg:GoodN s) (ho:t.order=s.order) (hent : ∀ k:Nat,k<32→(k:Int)∈s.order→eat t.entries k=eat s.entries k):Srt t:=by
  have hE : ∀ a b,((a:Nat):Int)∈s.order→(Edge (graphZ s) a b↔Edge (graphZ t) a b):=fun a b ha=>by
    unfold Edge
    by_cases h32:a<32
    · rw [bat_graphZ h32,bat_graphZ h32,depsAt_graphZ h32,depsAt_graphZ h32,hent a h32 ha]
    · exact ⟨fun e=>absurd e.1 h32,fun e=>absurd e.1 h32⟩
  have hS : ∀ a b,((a:Nat):Int)∈s.order→Edge (graphZ s) a b→((b:Nat):Int)∈s.order:=fun a b ha e=>h.clo a ha b (pathB_iff.2 (.one e))
  have hp : ∀ n d,((n:Nat):Int)∈s.order→pathB (graphZ t) n d=pathB (graphZ s) n d:=fun n d hn=>by
    rw [Bool.eq_iff_iff,pathB_iff,pathB_iff]
    exact (path_eq (S:=fun k=>((k:Nat):Int)∈s.order) hS hE hn).symm
  refine ⟨fun n hn d hd => ?_,?_⟩
  · rw [ho] at hn ⊢
    rw [hp n d hn] at hd
    exact h.clo n hn d hd
  · rw [ho]
    refine h.ord.imp_of_mem fun {a b} ha hb hab => ?_
    have ha0:=(hg.inr a ha).1
    have hb0:=(hg.inr b hb).1
    have ha':((a.toNat:Nat):Int)∈s.order:=by rw [Int.toNat_of_nonneg ha0];exact ha
    have hb':((b.toNat:Nat):Int)∈s.order:=by rw [Int.toNat_of_nonneg hb0];exact hb
    unfold Rb at *
    rw [hp _ _ ha',hp _ _ hb']
    exact hab
theorem Ex.graph {s t:GNode} (h:Ex s t):graphZ t=graphZ s:=by
  have e1:(fun k:Fin 32=>decide ((eat t.entries k.val).state≥2))=fun k:Fin 32=>decide ((eat s.entries k.val).state≥2):=funext fun k=>by
    rcases h.ent k.val k.isLt with e | ⟨e2,a,b,e⟩
    · rw [e]
    · rw [e,e2]
      rfl
  have e2:(fun k:Fin 32=>(eat t.entries k.val).deps)=fun k:Fin 32=>(eat s.entries k.val).deps:=funext fun k=>by
    rcases h.ent k.val k.isLt with e | ⟨e2,a,b,e⟩
    · rw [e]
    · rw [e]
      rfl
  unfold graphZ
  rw [e1,e2]
def openL (s:GNode) (l:List Nat):List Nat:=l.filter fun m=>(eat s.entries m).state==2
theorem run_order (sh:Int) : ∀ (l:List Nat) (s:GNode),l.Nodup→(∀ m∈l,m<32)→(runZ sh s l).order=s.order++castL (openL s l)
  | [],s,_,_=>by simp [runZ,openL,castL]
  | m::t,s,hn,hl=>by
    have hm:=hl m List.mem_cons_self
    obtain ⟨hnm,hnt⟩:=List.nodup_cons.1 hn
    have ih:=run_order sh t (stepZ sh s m) hnt fun x hx=>hl x (List.mem_cons_of_mem _ hx)
    show (runZ sh (stepZ sh s m) t).order=_
    rw [ih]
    unfold stepZ openL
    cases h2:((eat s.entries m).state==2)
    · rw [cond_false,List.filter_cons_of_neg (by simp [h2])]
    · rw [cond_true,List.filter_cons_of_pos (by simp [h2])]
      have hf:t.filter (fun x=>(eat (oneZ s m sh).entries x).state==2)=t.filter fun x=>(eat s.entries x).state==2:=by
        refine List.filter_congr fun x hx => ?_
        have hxm:m≠x:=fun e=>hnm (by rw [e];exact hx)
        show ((eat (s.entries.setIfInBounds m _) x).state==2)=_
        rw [eat_setI hm,if_neg hxm]
      rw [hf]
      show (s.order++[(m:Int)])++_=_
      rw [List.append_assoc]
      rfl
theorem Srt.turn {s:GNode} (hg:GoodN s) (h:Srt s) {n:Nat} (hn:n<32) (sh:Int):Srt (turnZ (graphZ s) sh s n):=by
  unfold turnZ
  cases h2:((eat s.entries n).state==2)
  · exact h
  rw [cond_true]
  by_cases hr:readyZ (graphZ s) (n:Int)=true
  · have hl:ordL (graphZ s) n=orderS (pathB (graphZ s)) n:=by rw [ordL,if_pos hr]
    have hP:=pathB_pre (graphZ s)
    have hok:=orderS_ok hP hn
    have hkn:=readyZ_known hn hr
    rw [hl]
    have ho:=run_order sh (orderS (pathB (graphZ s)) n) s hok.nodup hok.lt
    have hgr:=(Ex.run sh (orderS (pathB (graphZ s)) n) s hok.lt).graph
    have hmem : ∀ k:Nat,(k:Int)∈castL (openL s (orderS (pathB (graphZ s)) n))↔k∈orderS (pathB (graphZ s)) n∧(eat s.entries k).state=2:=fun k=>by
      rw [mem_castL,openL,List.mem_filter]
      simp
    refine ⟨fun k hk d hd => ?_,?_⟩
    · rw [hgr] at hd
      rw [ho] at hk ⊢
      rcases List.mem_append.1 hk with hk | hk
      · exact List.mem_append_left _ (h.clo k hk d hd)
      · have hk:=((hmem k).1 hk).1
        have hnk:=(orderS_mem hP hn k).1 hk
        have hnd:=hP.trans _ _ _ hnk hd
        have hd32:=hP.lt n d hn hnd
        have hb:=hkn d hnd
        rw [bat_graphZ hd32,decide_eq_true_eq] at hb
        have hst:=hg.state hd32
        by_cases h3:(eat s.entries d).state=3
        · exact List.mem_append_left _ ((hg.done hd32).1 h3)
        · exact List.mem_append_right _ ((hmem d).2 ⟨(orderS_mem hP hn d).2 hnd,by omega⟩)
    · rw [hgr,ho]
      refine List.pairwise_append.2 ⟨h.ord,?_,fun a ha b hb => ?_⟩
      · unfold castL
        rw [List.pairwise_map]
        simp only [Int.toNat_natCast]
        exact (orderS_pw hP hn).filter _
      · obtain ⟨m,_,rfl⟩:=List.mem_map.1 hb
        have hb2:=((hmem m).1 hb).2
        have hb32:=hok.lt m ((hmem m).1 hb).1
        have ha0:=(hg.inr a ha).1
        intro hab
        rw [Int.toNat_natCast] at hab
        have hin:=h.clo a.toNat (by rw [Int.toNat_of_nonneg ha0];exact ha) m hab
        have:=(hg.done hb32).2 hin
        omega
  · have hl:ordL (graphZ s) n=[]:=by rw [ordL,if_neg hr]
    rw [hl]
    exact h
theorem Srt.turns (sh:Int) {g:GGraph} (l:List Nat) : ∀ {s:GNode},GoodN s→Srt s→graphZ s=g→(∀ m∈l,m<32)→Srt (l.foldl (turnZ g sh) s):=by
  induction l with
  | nil=>intro s _ h _ _;exact h
  | cons m t ih =>
    intro s hg h he hl
    have hm:=hl m List.mem_cons_self
    rw [List.foldl_cons]
    refine ih (hg.turn hm g sh) ?_ ((Ex.turn hm g sh).graph.trans he) fun x hx=>hl x (List.mem_cons_of_mem _ hx)
    rw [← he]
    exact h.turn hg hm sh
theorem Srt.exec {s:GNode} (hg:GoodN s) (h:Srt s) (sh:Int):Srt (execZ s sh):=Srt.turns sh _ hg h rfl fun m hm=>List.mem_range.1 hm
theorem not_done {s:GNode} (hg:GoodN s) {k:Nat} (hk:k<32) (hin:(k:Int)∈s.order) {n:Nat} (hn:(eat s.entries n).state≠3):n≠k:=by
  rintro rfl
  exact hn ((hg.done hk).2 hin)
theorem Srt.take {s:GNode} (h:Srt s) {who:Int} {f:GFrame}:Srt (takeN s who f).1:=by
  by_cases h0:(takeN s who f).2.2=0
  · obtain ⟨hs,hw,hn,hz,hk⟩:=takeN_ok h0
    obtain ⟨_,_,hf⟩:=frameZ_in hz
    have hid:f.id.toNat<32:=by omega
    rw [takeN_of hs hw hn hz]
    rcases hk with ⟨h1,ht⟩ | h3
    · rw [takeK_ask h1 ht]
      show Srt (askN s f (ofZ who))
      unfold askN
      cases hst:((eat s.entries f.id.toNat).state==0)
      · exact h
      · have hst:(eat s.entries f.id.toNat).state=0:=by simpa using hst
        refine h.of hs rfl fun k hk hin => ?_
        show eat (s.entries.setIfInBounds _ _) k=_
        rw [eat_setI hid,if_neg (not_done hs hk hin (by omega))]
    · rw [takeK_commit h3]
      show Srt (commitN s f (ofZ who))
      unfold commitN
      by_cases h2:(eat s.entries f.id.toNat).state<2
      · rw [bif_t (dec_t h2)]
        refine Srt.exec (hs.comm hz h3 h2 _) (h.of hs rfl fun k hk hin => ?_) _
        show eat (s.entries.setIfInBounds _ _) k=_
        rw [eat_setI hid,if_neg (not_done hs hk hin (by omega))]
      · rw [bif_f (dec_f h2)];exact h
  · rw [(takeN_no h0).1];exact h
theorem zero_srt:Srt zeroN:=⟨fun n hn _ _=>absurd (show (n:Int)∈([]:List Int) from hn) List.not_mem_nil,(List.Pairwise.nil:List.Pairwise _ ([]:List Int))⟩
def AtOf (s:GNode) (k:Nat) (v:Vector Int 32):Prop := ∀ m,m<32→(iat v m=0∧((m:Nat):Int)∉s.order.take k) ∨ ∃ i,i<k∧s.order[i]? = some ((m:Nat):Int)∧iat v m=(i:Int)+1
end Go.Proofs.Yteilffoclpgijaa
namespace Go.Proofs.Yteilffoclpgijaa
open Go.RowKit
open Rep (rep)
noncomputable def dur (c:GCluster) (n:Nat):GNode:=(replayZ n (readL (vget c.logs n).data.toList).1 zeroN).1
theorem dur_good (c:GCluster) (n:Nat):GoodN (dur c n):=replayZ_good _ zero_good
structure NetE (c:GCluster) (f:GFrame) (e:GEntry):Prop where
  beg:(vget c.cases f.id.toNat).begun=true
  ask:f.kind=1→f.ops=(vget c.cases f.id.toNat).ops∧touchesZ f.ops (ofZ f.node)=true
  told:f.kind=2→e.state≠0∧f.deps=e.first
  commit:f.kind=3→(vget c.cases f.id.toNat).fixed=true∧f.ops=(vget c.cases f.id.toNat).ops∧f.deps=(vget c.cases f.id.toNat).deps
  known:f.kind=4→2≤e.state
  done:f.kind=5→e.state=3∧f.at_=e.at_∧f.vals=e.values
structure NetF (c:GCluster) (f:GFrame):Prop where
  good:frameZ f=0
  ent:NetE c f (eat (dur c f.node.toNat).entries f.id.toNat)
structure NodeP (c:GCluster) (n:Nat) (s:GNode):Prop where
  beg : ∀ i,i<32→(eat s.entries i).state≠0→(vget c.cases i).begun=true∧(eat s.entries i).ops=(vget c.cases i).ops
  fix : ∀ i,i<32→2≤(eat s.entries i).state→(vget c.cases i).fixed=true∧(eat s.entries i).deps=(vget c.cases i).deps
  way : ∀ i j,i<32→j<32→i≠j→(eat s.entries i).state≠0→(eat s.entries j).state≠0→conflictZ (eat s.entries i).ops (eat s.entries j).ops (ofZ n)=true→((j:Nat):Int)∈(eat s.entries i).first∨((i:Nat):Int)∈(eat s.entries j).first
  heard : ∀ i,i<32→(eat s.entries i).state≠0 → ∀ d∈(eat s.entries i).first,∃ j:Nat,d=j∧j<32∧j≠i∧(eat s.entries j).state≠0
  sorted:Srt s
theorem zero_nodeP (c:GCluster) (n:Nat):NodeP c n zeroN:=by
  have h0 : ∀ i,(eat zeroN.entries i).state=0:=fun i=>by
    show (eat (Zr.zd:Vector GEntry 32) i).state=0
    rw [eat_zero]
    rfl
  exact ⟨fun i _ h=>absurd (h0 i) h,fun i _ h=>by rw [h0 i] at h;omega,fun i j _ _ _ h=>absurd (h0 i) h,fun i _ h=>absurd (h0 i) h,zero_srt⟩
theorem Ex.same {s t:GNode} (hx:Ex s t) {k:Nat} (hk:k<32):(eat t.entries k).ops=(eat s.entries k).ops∧(eat t.entries k).first=(eat s.entries k).first∧(eat t.entries k).deps=(eat s.entries k).deps∧((eat t.entries k).state≠0↔(eat s.entries k).state≠0)∧(2≤(eat t.entries k).state↔2≤(eat s.entries k).state):=by
  rcases hx.ent k hk with e | ⟨e2,a,b,e⟩
  · rw [e]
    exact ⟨rfl,rfl,rfl,Iff.rfl,Iff.rfl⟩
  · rw [e]
    refine ⟨rfl,rfl,rfl,?_,?_⟩
    · show (3:Int)≠0↔_
      rw [e2]
      decide
    · show 2≤(3:Int)↔_
      rw [e2]
      decide
structure NodeQ (c:GCluster) (n:Nat) (s:GNode):Prop where
  beg : ∀ i,i<32→(eat s.entries i).state≠0→(vget c.cases i).begun=true∧(eat s.entries i).ops=(vget c.cases i).ops
  fix : ∀ i,i<32→2≤(eat s.entries i).state→(vget c.cases i).fixed=true∧(eat s.entries i).deps=(vget c.cases i).deps
  way : ∀ i j,i<32→j<32→i≠j→(eat s.entries i).state≠0→(eat s.entries j).state≠0→conflictZ (eat s.entries i).ops (eat s.entries j).ops (ofZ n)=true→((j:Nat):Int)∈(eat s.entries i).first∨((i:Nat):Int)∈(eat s.entries j).first
  heard : ∀ i,i<32→(eat s.entries i).state≠0 → ∀ d∈(eat s.entries i).first,∃ j:Nat,d=j∧j<32∧j≠i∧(eat s.entries j).state≠0
theorem NodeP.q {c:GCluster} {n:Nat} {s:GNode} (h:NodeP c n s):NodeQ c n s:=⟨h.beg,h.fix,h.way,h.heard⟩
theorem NodeQ.p {c:GCluster} {n:Nat} {s:GNode} (h:NodeQ c n s) (hs:Srt s):NodeP c n s:=⟨h.beg,h.fix,h.way,h.heard,hs⟩
theorem NodeQ.ex {c:GCluster} {n:Nat} {s t:GNode} (h:NodeQ c n s) (hx:Ex s t):NodeQ c n t:=by
  refine ⟨fun i hi hs => ?_,fun i hi hs => ?_,fun i j hi hj hij h1 h2 hc => ?_,fun i hi hs d hd => ?_⟩
  · obtain ⟨e1,_,_,e4,_⟩:=hx.same hi
    rw [e1]
    exact h.beg i hi (e4.1 hs)
  · obtain ⟨_,_,e3,_,e5⟩:=hx.same hi
    rw [e3]
    exact h.fix i hi (e5.1 hs)
  · obtain ⟨e1,e2,_,e4,_⟩:=hx.same hi
    obtain ⟨f1,f2,_,f4,_⟩:=hx.same hj
    rw [e1,f1] at hc
    rw [e2,f2]
    exact h.way i j hi hj hij (e4.1 h1) (f4.1 h2) hc
  · obtain ⟨_,e2,_,e4,_⟩:=hx.same hi
    rw [e2] at hd
    obtain ⟨j,hj,hj32,hne,hst⟩:=h.heard i hi (e4.1 hs) d hd
    exact ⟨j,hj,hj32,hne,(hx.same hj32).2.2.2.1.2 hst⟩
theorem NodeQ.set {c:GCluster} {n:Nat} {s t:GNode} (h:NodeQ c n s) {i0:Nat} (hi0:i0<32) {e:GEntry} (ht:t.entries=s.entries.setIfInBounds i0 e) (hb:(vget c.cases i0).begun=true) (ho:e.ops=(vget c.cases i0).ops) (h1:e.state≠0)
    (hf:2≤e.state→(vget c.cases i0).fixed=true∧e.deps=(vget c.cases i0).deps) (hfi:((eat s.entries i0).state≠0∧e.first=(eat s.entries i0).first)∨((eat s.entries i0).state=0∧e.first=aheadZ s i0 e.ops (ofZ n))):NodeQ c n t:=by
  have hat : ∀ k,eat t.entries k=if i0=k then e else eat s.entries k:=fun k=>by rw [ht,eat_setI hi0]
  have hkeep : ∀ k,k<32→(eat s.entries k).state≠0→(eat t.entries k).state≠0:=fun k _ hs=>by
    rw [hat]
    by_cases e':i0=k
    · rw [if_pos e'];exact h1
    · rw [if_neg e'];exact hs
  have hnew : ∀ j,j<32→i0≠j→(eat s.entries j).state≠0→conflictZ e.ops (eat s.entries j).ops (ofZ n)=true→((j:Nat):Int)∈e.first∨((i0:Nat):Int)∈(eat s.entries j).first:=fun j hj hij h2 hc=>by
    rcases hfi with ⟨o1,o2⟩ | ⟨o1,o2⟩
    · rw [o2]
      have:=(h.beg i0 hi0 o1).2
      rw [ho,← this] at hc
      exact h.way i0 j hi0 hj hij o1 h2 hc
    · refine .inl ?_
      rw [o2,aheadZ,mem_castL,aheadL_mem]
      refine ⟨hj,?_⟩
      unfold inWay
      rw [conflict_comm,hc]
      simp only [Bool.and_true,Bool.and_eq_true,bne_iff_ne,ne_eq]
      exact ⟨fun e'=>hij (by omega),h2⟩
  refine ⟨fun i hi hs => ?_,fun i hi hs => ?_,fun i j hi hj hij hs1 hs2 hc => ?_,fun i hi hs d hd => ?_⟩
  · rw [hat] at hs ⊢
    by_cases e':i0=i
    · subst e';rw [if_pos rfl];exact ⟨hb,ho⟩
    · rw [if_neg e'] at hs ⊢;exact h.beg i hi hs
  · rw [hat] at hs ⊢
    by_cases e':i0=i
    · subst e';rw [if_pos rfl] at hs ⊢;exact hf hs
    · rw [if_neg e'] at hs ⊢;exact h.fix i hi hs
  · rw [hat] at hs1 hc ⊢
    rw [hat j] at hs2 hc ⊢
    by_cases e1:i0=i
    · subst e1
      rw [if_pos rfl] at hc ⊢
      rw [if_neg hij] at hs2 hc ⊢
      exact hnew j hj hij hs2 hc
    · rw [if_neg e1] at hs1 hc ⊢
      by_cases e2:i0=j
      · subst e2
        rw [if_pos rfl] at hc ⊢
        rw [conflict_comm] at hc
        exact (hnew i hi (Ne.symm hij) hs1 hc).symm
      · rw [if_neg e2] at hs2 hc ⊢
        exact h.way i j hi hj hij hs1 hs2 hc
  · have hold:(eat s.entries i).state≠0→d∈(eat s.entries i).first → ∃ j:Nat,d=j∧j<32∧j≠i∧(eat t.entries j).state≠0:=fun h2 h3=>by
      obtain ⟨j,hj,hj32,hne,hst⟩:=h.heard i hi h2 d h3
      exact ⟨j,hj,hj32,hne,hkeep j hj32 hst⟩
    rw [hat] at hs hd
    by_cases e':i0=i
    · subst e'
      rw [if_pos rfl] at hd
      rcases hfi with ⟨o1,o2⟩ | ⟨o1,o2⟩
      · rw [o2] at hd;exact hold o1 hd
      · rw [o2,aheadZ] at hd
        obtain ⟨j,hj,rfl⟩:=List.mem_map.1 hd
        obtain ⟨hj32,hw⟩:=aheadL_mem.1 hj
        unfold inWay at hw
        simp only [Bool.and_eq_true,bne_iff_ne,ne_eq] at hw
        exact ⟨j,rfl,hj32,fun e'=>hw.1 (by omega),hkeep j hj32 hw.2.1⟩
    · rw [if_neg e'] at hs hd
      exact hold hs hd
theorem NodeP.take {c:GCluster} {n:Nat} (hn6:n<6) {s:GNode} (h:NodeP c n s) (hg:GoodN s) {f:GFrame} {e:GEntry} (hf:NetE c f e) (hz:frameZ f=0) (hn:f.node=n) (hk:f.kind=1∨f.kind=3) :
    (takeN s n f).2.2=0∧NodeP c n (takeN s n f).1 ∧ ∀ g∈(takeN s n f).2.1,g.node=n∧g.id=f.id∧NetE c g (eat (takeN s n f).1.entries f.id.toNat):=by
  obtain ⟨_,_,hid⟩:=frameZ_in hz
  have hi:f.id.toNat<32:=by omega
  have hidn:((f.id.toNat:Nat):Int)=f.id:=by omega
  have hsrt:=h.sorted.take (who:=(n:Int)) (f:=f)
  have hof:=takeN_of hg (who:=(n:Int)) (by omega) hn hz
  rw [hof] at hsrt ⊢
  rcases hk with h1 | h3
  · obtain ⟨ho,ht⟩:=hf.ask h1
    rw [hn] at ht
    rw [takeK_ask h1 ht] at hsrt ⊢
    have hq:NodeQ c n (askN s f (ofZ n)):=by
      unfold askN
      cases h0:((eat s.entries f.id.toNat).state==0)
      · exact h.q
      · have h0:(eat s.entries f.id.toNat).state=0:=by simpa using h0
        refine h.q.set hi (e:=askedE s f (ofZ n)) rfl hf.beg ho (by show (1:Int)≠0;decide) (fun h2 => ?_) (.inr ⟨h0,?_⟩)
        · have h2:2≤(1:Int):=h2
          omega
        · show aheadZ s f.id f.ops (ofZ n)=aheadZ s f.id.toNat f.ops (ofZ n)
          rw [hidn]
    have hst:(eat (askN s f (ofZ n)).entries f.id.toNat).state≠0:=by
      unfold askN
      cases h0:((eat s.entries f.id.toNat).state==0)
      · simpa using h0
      · show (eat (s.entries.setIfInBounds _ _) _).state≠0
        rw [eat_setI hi,if_pos rfl]
        show (1:Int)≠0
        decide
    refine ⟨rfl,hq.p hsrt,fun g hgm => ?_⟩
    rw [List.mem_singleton.1 hgm]
    exact ⟨rfl,rfl,hf.beg,fun h=>absurd (show (2:Int)=1 from h) (by decide),fun _=>⟨hst,rfl⟩,fun h=>absurd (show (2:Int)=3 from h) (by decide),fun h=>absurd (show (2:Int)=4 from h) (by decide),fun h=>absurd (show (2:Int)=5 from h) (by decide)⟩
  · obtain ⟨hfx,ho,hd⟩:=hf.commit h3
    rw [takeK_commit h3] at hsrt ⊢
    have hq:NodeQ c n (commitN s f (ofZ n)):=by
      unfold commitN
      by_cases h2:(eat s.entries f.id.toNat).state<2
      · rw [bif_t (dec_t h2)]
        refine NodeQ.ex (h.q.set hi (t:=commN s f (ofZ n)) (e:=commE s f (ofZ n)) rfl hf.beg ho (by show (2:Int)≠0;decide) (fun _=>⟨hfx,hd⟩) ?_) (Ex.exec _ _)
        show _∧firstE s f (ofZ n)=_∨_∧firstE s f (ofZ n)=aheadZ s f.id.toNat f.ops (ofZ n)
        unfold firstE
        rw [hidn]
        cases h0:((eat s.entries f.id.toNat).state==0)
        · exact .inl ⟨by simpa using h0,rfl⟩
        · exact .inr ⟨by simpa using h0,rfl⟩
      · rw [bif_f (dec_f h2)]
        exact h.q
    have hst:=commitN_state (s:=s) hid (ofZ n)
    refine ⟨rfl,hq.p hsrt,fun g hgm => ?_⟩
    have hkn:NetE c (knownF n f.id) (eat (commitN s f (ofZ n)).entries f.id.toNat) :=
      ⟨hf.beg,fun h=>absurd (show (4:Int)=1 from h) (by decide),fun h=>absurd (show (4:Int)=2 from h) (by decide),fun h=>absurd (show (4:Int)=3 from h) (by decide),fun _=>hst,fun h=>absurd (show (4:Int)=5 from h) (by decide)⟩
    have hgm:g∈answers (ofZ n) n f.id (commitN s f (ofZ n)):=hgm
    unfold answers at hgm
    cases hb:((eat (commitN s f (ofZ n)).entries f.id.toNat).state==3&&touchesZ (eat (commitN s f (ofZ n)).entries f.id.toNat).ops (ofZ n))
    · rw [hb] at hgm
      rw [List.mem_singleton.1 (show g∈[knownF n f.id] from hgm)]
      exact ⟨rfl,rfl,hkn⟩
    · rw [hb] at hgm
      simp only [Bool.and_eq_true,beq_iff_eq] at hb
      rcases List.mem_cons.1 (show g∈[knownF n f.id,doneF n f.id (eat (commitN s f (ofZ n)).entries f.id.toNat)] from hgm) with hgm | hgm
      · rw [hgm];exact ⟨rfl,rfl,hkn⟩
      · rw [List.mem_singleton.1 hgm]
        exact ⟨rfl,rfl,hf.beg,fun h=>absurd (show (5:Int)=1 from h) (by decide),fun h=>absurd (show (5:Int)=2 from h) (by decide),fun h=>absurd (show (5:Int)=3 from h) (by decide),fun h=>absurd (show (5:Int)=4 from h) (by decide),fun _=>⟨hb.1,rfl,rfl⟩⟩
end Go.Proofs.Yteilffoclpgijaa
namespace Go.Proofs.Yteilffoclpgijaa
open Go.RowKit
open Rep (rep)
abbrev logL (c:GCluster) (n:Nat):List UInt8:=(vget c.logs n).data.toList
structure CaseP (c:GCluster) (i:Nat):Prop where
  told : ∀ k,k<6→hasAt (vget c.cases i).told k=true→(eat (dur c k).entries i).state≠0 ∧ ∀ d∈(eat (dur c k).entries i).first,d∈(vget c.cases i).deps
  heard : ∀ d∈(vget c.cases i).deps,∃ j:Nat,d=j∧j<32∧j≠i∧(vget c.cases j).begun=true
  fix:(vget c.cases i).fixed=true→enoughC (vget c.cases i)=true
  done : ∀ k,hasAt (vget c.cases i).has k=true→(vget c.cases i).fixed=true ∧ ∃ (n m:Nat) (o:GOp),n<6∧(eat (dur c n).entries i).state=3∧(eat (dur c n).entries i).at_[m]? = some ((k:Nat):Int)∧(eat (dur c n).entries i).values[m]? = some ((vget c.cases i).values[k]?.getD 0)∧(vget c.cases i).ops[k]? = some o∧shardZ o.key=ofZ n
structure PInv (c:GCluster) (net:List ByteArray) (b:Nat):Prop where
  inv:CInv c net
  cnt : ∀ i,i<32→(vget c.cases i).begun=decide ((i:Int)<c.begun)
  rep : ∀ n:Nat,n<6→(replayZ n (readL (logL c n)).1 zeroN).2=0
  up : ∀ n,n<6→vget c.down n=false→vget c.nodes n=dur c n∧(readL (logL c n)).2=(vget c.logs n).size
  len : ∀ n,n<6→(vget c.logs n).size≤b
  net : ∀ s∈net,∃ f,s=(encP f).1∧NetF c f
  node : ∀ n,n<6→NodeP c n (dur c n)
  cas : ∀ i,i<32→(vget c.cases i).begun=true→CaseP c i
structure Grow (c d:GCluster):Prop where
  cas : ∀ i,i<32→(vget c.cases i).begun=true→(vget d.cases i).begun=true∧(vget d.cases i).ops=(vget c.cases i).ops∧((vget c.cases i).fixed=true→(vget d.cases i).fixed=true∧(vget d.cases i).deps=(vget c.cases i).deps)
  durs : ∀ n,n<6→KeepN (dur c n) (dur d n)
theorem Grow.of_cases {c d:GCluster} (hc:d.cases=c.cases) (hd : ∀ n,n<6→KeepN (dur c n) (dur d n)):Grow c d :=
  ⟨fun i _ hb=>by rw [hc];exact ⟨hb,rfl,fun h=>⟨h,rfl⟩⟩,hd⟩
theorem Grow.refl (c:GCluster):Grow c c := .of_cases rfl fun _ _ => .refl _
theorem Kp.ne {x y:GEntry} (h:Kp x y) (h0:0≤x.state) (hx:x.state≠0):y.state≠0:=by have:=h.state;omega
theorem NetE.grow {c d:GCluster} (hg:Grow c d) {f:GFrame} {x y:GEntry} (hid:f.id.toNat<32) (h0:0≤x.state) (hk:Kp x y) (h:NetE c f x):NetE d f y:=by
  obtain ⟨g1,g2,g3⟩:=hg.cas _ hid h.beg
  refine ⟨g1,fun hh => ?_,fun hh => ?_,fun hh => ?_,fun hh => ?_,fun hh => ?_⟩
  · rw [g2];exact h.ask hh
  · obtain ⟨a,b⟩:=h.told hh
    exact ⟨hk.ne h0 a,b.trans (hk.first a)⟩
  · obtain ⟨a,b,e⟩:=h.commit hh
    obtain ⟨g4,g5⟩:=g3 a
    rw [g2,g5]
    exact ⟨g4,b,e⟩
  · exact Int.le_trans (h.known hh) hk.state
  · obtain ⟨a,b⟩:=h.done hh
    rw [← hk.done a]
    exact ⟨a,b⟩
theorem NetF.grow {c d:GCluster} (hg:Grow c d) {f:GFrame} (h:NetF c f):NetF d f:=by
  obtain ⟨_,hn,hid⟩:=frameZ_in h.good
  exact ⟨h.good,h.ent.grow hg (by omega) ((dur_good c f.node.toNat).state (by omega)).1 ((hg.durs _ (by omega)).ent _ (by omega))⟩
theorem NodeP.grow {c d:GCluster} (hg:Grow c d) {n:Nat} {s:GNode} (h:NodeP c n s):NodeP d n s:=by
  refine ⟨fun i hi hs => ?_,fun i hi hs => ?_,h.way,h.heard,h.sorted⟩
  · obtain ⟨a,b⟩:=h.beg i hi hs
    obtain ⟨g1,g2,_⟩:=hg.cas i hi a
    rw [g2]
    exact ⟨g1,b⟩
  · obtain ⟨a,b⟩:=h.fix i hi hs
    obtain ⟨g1,g2,g3⟩:=hg.cas i hi (h.beg i hi (by omega)).1
    obtain ⟨g4,g5⟩:=g3 a
    rw [g5]
    exact ⟨g4,b⟩
theorem CaseP.grow {c d:GCluster} (hg:Grow c d) {i:Nat} (hi:i<32) (he:vget d.cases i=vget c.cases i) (h:CaseP c i):CaseP d i:=by
  refine ⟨fun k hk ht => ?_,fun x hx => ?_,fun hf => ?_,fun k hk => ?_⟩
  · rw [he] at ht ⊢
    obtain ⟨a,b⟩:=h.told k hk ht
    have hkp:=(hg.durs k hk).ent i hi
    rw [← hkp.first a]
    exact ⟨hkp.ne ((dur_good c k).state hi).1 a,b⟩
  · rw [he] at hx
    obtain ⟨j,h1,h2,h3,h4⟩:=h.heard x hx
    exact ⟨j,h1,h2,h3,(hg.cas j h2 h4).1⟩
  · rw [he] at hf ⊢
    exact h.fix hf
  · rw [he] at hk ⊢
    obtain ⟨a,n,m,o,h1,h2,h3⟩:=h.done k hk
    have hkp:=(hg.durs n h1).ent i hi
    rw [hkp.done h2] at h3
    have h2:=(congrArg GEntry.state (hkp.done h2)).symm.trans h2
    exact ⟨a,n,m,o,h1,h2,h3⟩
theorem sendZ_mem : ∀ (l:List GFrame) (net:List ByteArray) (s:ByteArray),s∈sendZ net l→s∈net ∨ ∃ f∈l,frameZ f=0∧s=(encP f).1
  | [],net,s,h => .inl h
  | f::t,net,s,h=>by
    rw [sendZ] at h
    rcases sendZ_mem t _ s h with h | ⟨g,hg,hz,e⟩
    · cases hb:(frameZ f==0&&decide (net.length<60))
      · rw [hb] at h;exact .inl h
      · rw [hb,cond_true] at h
        simp only [Bool.and_eq_true,beq_iff_eq] at hb
        rcases List.mem_append.1 h with h | h
        · exact .inl h
        · exact .inr ⟨f,List.mem_cons_self,hb.1,List.mem_singleton.1 h⟩
    · exact .inr ⟨g,List.mem_cons_of_mem _ hg,hz,e⟩
theorem PInv.send {c:GCluster} {net:List ByteArray} {b:Nat} (h:PInv c net b) (l:List GFrame) (hl : ∀ f∈l,frameZ f=0→NetF c f):PInv c (sendZ net l) b:=by
  refine ⟨h.inv.sent l,h.cnt,h.rep,h.up,h.len,fun s hs => ?_,h.node,h.cas⟩
  rcases sendZ_mem l net s hs with hs | ⟨f,hf,hz,e⟩
  · exact h.net s hs
  · exact ⟨f,e,hl f hf hz⟩
theorem PInv.cut {c:GCluster} {net net':List ByteArray} {b:Nat} (h:PInv c net b) (hs : ∀ s∈net',s∈net) (hl:net'.length≤net.length):PInv c net' b :=
  ⟨h.inv.cut hs hl,h.cnt,h.rep,h.up,h.len,fun s hm=>h.net s (hs s hm),h.node,h.cas⟩
theorem PInv.mono {c:GCluster} {net:List ByteArray} {b b':Nat} (h:PInv c net b) (hb:b≤b'):PInv c net b' :=
  ⟨h.inv,h.cnt,h.rep,h.up,fun n hn=>Nat.le_trans (h.len n hn) hb,h.net,h.node,h.cas⟩
theorem againL_net {c:GCluster} {i:Nat} (hi:i<32) (hb:(vget c.cases i).begun=true) : ∀ (m k:Nat),m+k=6 → ∀ f∈againL (vget c.cases i) i m k,frameZ f=0→NetF c f
  | 0,k,_,f,hf,_=>by cases hf
  | m+1,k,hk,f,hf,hz=>by
    rw [againL] at hf
    rcases List.mem_append.1 hf with hf | hf
    · have hi':((i:Nat):Int).toNat=i:=rfl
      unfold againAt at hf
      cases hfx:(vget c.cases i).fixed
      · rw [hfx,cond_false] at hf
        cases ht:(touchesZ (vget c.cases i).ops (ofZ k) && !hasAt (vget c.cases i).told k)
        · rw [ht] at hf;cases hf
        · rw [ht,cond_true] at hf
          simp only [Bool.and_eq_true] at ht
          have e:=List.mem_singleton.1 hf
          subst e
          exact ⟨hz,hb,fun _=>⟨rfl,ht.1⟩,fun h=>absurd (show (1:Int)=2 from h) (by decide),fun h=>absurd (show (1:Int)=3 from h) (by decide),fun h=>absurd (show (1:Int)=4 from h) (by decide),fun h=>absurd (show (1:Int)=5 from h) (by decide)⟩
      · rw [hfx,cond_true] at hf
        cases ht:(!hasAt (vget c.cases i).known k || !wholeC (vget c.cases i) (ofZ k))
        · rw [ht] at hf;cases hf
        · rw [ht,cond_true] at hf
          have e:=List.mem_singleton.1 hf
          subst e
          exact ⟨hz,hb,fun h=>absurd (show (3:Int)=1 from h) (by decide),fun h=>absurd (show (3:Int)=2 from h) (by decide),fun _=>⟨hfx,rfl,rfl⟩,fun h=>absurd (show (3:Int)=4 from h) (by decide),fun h=>absurd (show (3:Int)=5 from h) (by decide)⟩
    · exact againL_net hi hb m (k+1) (by omega) f hf hz
theorem againC_net {c:GCluster} {i:Nat} (hi:i<32) (hb:(vget c.cases i).begun=true) : ∀ f∈againC (vget c.cases i) i,frameZ f=0→NetF c f:=fun f hf hz=>by
  unfold againC at hf
  cases hs:sends (vget c.cases i) i
  · rw [hs] at hf;cases hf
  · rw [hs,cond_true] at hf
    exact againL_net hi hb 6 0 rfl f hf hz
theorem PInv.relog {c d:GCluster} {net:List ByteArray} {b b' n:Nat} (h:PInv c net b) (hn:n<6) (hinv:CInv d net) (hcas:d.cases=c.cases) (hbeg:d.begun=c.begun) (hlogs : ∀ k:Nat,k<6→k≠n→vget d.logs k=vget c.logs k)
    (hd:dur d n=dur c n ∨ ∃ f,NetF c f∧f.node=n∧(f.kind=1∨f.kind=3)∧dur d n=(takeN (dur c n) n f).1) (hrep:(replayZ n (readL (logL d n)).1 zeroN).2=0) (hlen : ∀ k:Nat,k<6→(vget d.logs k).size≤b')
    (hup : ∀ k:Nat,k<6→vget d.down k=false→vget d.nodes k=dur d k∧(readL (logL d k)).2=(vget d.logs k).size):Grow c d∧PInv d net b':=by
  have hdur : ∀ k,k<6→k≠n→dur d k=dur c k:=fun k hk hkn=>by unfold dur;rw [hlogs k hk hkn]
  have hg:Grow c d:=Grow.of_cases hcas fun k hk=>by
    by_cases e:k=n
    · subst e
      rcases hd with e | ⟨f,_,_,_,e⟩
      · rw [e];exact .refl _
      · rw [e];exact takeN_keep
    · rw [hdur k hk e];exact .refl _
  refine ⟨hg,hinv,fun i hi=>by rw [hcas,hbeg];exact h.cnt i hi,fun k hk => ?_,hup,hlen,fun s hs => ?_,fun k hk => ?_,fun i hi hb => ?_⟩
  · by_cases e:k=n
    · subst e;exact hrep
    · show (replayZ k (readL (vget d.logs k).data.toList).1 zeroN).2=0
      rw [hlogs k hk e]
      exact h.rep k hk
  · obtain ⟨f,e,hf⟩:=h.net s hs
    exact ⟨f,e,hf.grow hg⟩
  · by_cases e:k=n
    · subst e
      rcases hd with e | ⟨f,hf,hfn,hk2,e⟩
      · rw [e];exact (h.node k hk).grow hg
      · rw [e]
        exact ((h.node k hk).take hk (dur_good c k) hf.ent hf.good hfn hk2).2.1.grow hg
    · rw [hdur k hk e]
      exact (h.node k hk).grow hg
  · rw [hcas] at hb
    exact (h.cas i hi hb).grow hg hi (by rw [hcas])
theorem dur_of {d:GCluster} {n:Nat} {l:List ByteArray} (h:(readL (logL d n)).1=l):dur d n=(replayZ n l zeroN).1:=by
  unfold dur
  rw [h]
theorem replay_next {c:GCluster} {net:List ByteArray} {b n:Nat} (h:PInv c net b) (hn:n<6) {f:GFrame} (hf:NetF c f) (hfn:f.node=n) (hk:f.kind=1∨f.kind=3) :
    replayZ n ((readL (logL c n)).1++[(encP f).1]) zeroN=((takeN (dur c n) n f).1,0):=by
  have h0:=((h.node n hn).take hn (dur_good c n) hf.ent hf.good hfn hk).1
  obtain ⟨_,e2,_⟩:=dec_enc hf.good
  have hr:replayZ n (readL (logL c n)).1 zeroN=(dur c n,0):=Prod.ext rfl (h.rep n hn)
  rw [replayZ_snoc _ _ _ hr,replayZ,e2]
  show (bif (0:Int) != 0 then _ else bif (takeN (dur c n) n f).2.2 != 0 then _ else replayZ n [] (takeN (dur c n) n f).1)=_
  rw [h0]
  rfl
theorem set_other {c:GCluster} {n:Nat} {x:ByteArray} (hn:n<6) : ∀ k,k<6→k≠n→vget (c.logs.setIfInBounds n x) k=vget c.logs k:=fun k _ hkn=>by rw [vget_set hn,if_neg (Ne.symm hkn)]
theorem set_this {c:GCluster} {n:Nat} {x:ByteArray} (hn:n<6):vget (c.logs.setIfInBounds n x) n=x:=by rw [vget_set hn,if_pos rfl]
theorem set_len {c:GCluster} {net:List ByteArray} {b n:Nat} (h:PInv c net b) (hn:n<6) {x:ByteArray} (hx:x.size≤b+102) : ∀ k,k<6→(vget (c.logs.setIfInBounds n x) k).size≤b+102:=fun k hk=>by
  rw [vget_set hn]
  by_cases e:n=k
  · rw [if_pos e];exact hx
  · rw [if_neg e]
    have:=h.len k hk
    omega
theorem wcode_zero {log s:ByteArray} (h1:1≤s.size) (h2:s.size≤400) (h3:log.size+2+s.size≤65536):wcode log s=0:=by
  unfold wcode
  rw [if_neg (by omega),if_neg (by omega),if_neg (by omega)]
theorem enc_pos {f:GFrame} (h:frameZ f=0):1≤(encP f).1.size:=by
  obtain ⟨hb,_⟩:=enc_bytes (FOk_of h)
  have hsz:=byL_len (strOfNums (encZ f))
  rw [byL_str hb] at hsz
  have hpos:4≤(encZ f).length:=by unfold encZ;simp
  unfold encP
  rw [if_pos h]
  show 1≤(strOfNums (encZ f)).size
  omega
theorem PInv.comeG {c:GCluster} {net:List ByteArray} {b n:Nat} (h:PInv c net b) (hb:b≤60000) (hn:n<6) {f:GFrame} (hf:NetF c f) (hfn:f.node=n) (hk:f.kind=1∨f.kind=3) :
    (Grow c (comeZ c net n f (encP f).1).2.1∧PInv (comeZ c net n f (encP f).1).2.1 (comeZ c net n f (encP f).1).2.2 (b+102))∧((comeZ c net n f (encP f).1).1=0∨(comeZ c net n f (encP f).1).1=6):=by
  have hs1:=enc_pos hf.good
  have hs2:=encP_size f
  have hinv:=h.inv.come hn (f:=f) (s:=(encP f).1)
  have hlen:=h.len n hn
  have hw:=wcode_zero (log:=vget c.logs n) hs1 (by omega) (by omega)
  obtain ⟨t1,t2,t3⟩:=(h.node n hn).take hn (dur_good c n) hf.ent hf.good hfn hk
  have hnx:=replay_next h hn hf hfn hk
  obtain ⟨_,_,hid⟩:=frameZ_in hf.good
  have hni:f.node.toNat=n:=by omega
  unfold comeZ at hinv ⊢
  cases hd:vget c.down n
  · obtain ⟨u1,u2⟩:=h.up n hn hd
    rw [hd,cond_false,u1,t1,bif_f (by rfl)] at hinv
    rw [cond_false,u1,t1,bif_f (by rfl)]
    have hwhole:Whole (vget c.logs n) (readL (logL c n)).1:=Prod.ext rfl u2
    by_cases ht:vget c.tear n>0
    · rw [bif_t (dec_t ht)] at hinv ⊢
      refine ⟨?_,.inr rfl⟩
      obtain ⟨r1,r2⟩:=whole_tear hwhole (encP f).1 (vget c.tear n-1) hs1 (by omega) hw
      have hsz:(tearZ (vget c.logs n) (encP f).1 (vget c.tear n-1)).size≤b+102:=by
        have:tornLen (encP f).1 (vget c.tear n-1)≤(encP f).1.size+2:=by unfold tornLen;split<;>(try split)<;>omega
        omega
      have hl:logL (fallZ { c with logs:=c.logs.setIfInBounds n (tearZ (vget c.logs n) (encP f).1 (vget c.tear n-1)) } n) n=(tearZ (vget c.logs n) (encP f).1 (vget c.tear n-1)).data.toList:=congrArg (fun x:ByteArray=>x.data.toList) (set_this hn)
      have hc:(readL (logL (fallZ { c with logs:=c.logs.setIfInBounds n (tearZ (vget c.logs n) (encP f).1 (vget c.tear n-1)) } n) n)).1=(readL (logL c n)).1++[(encP f).1]∨(readL (logL (fallZ { c with logs:=c.logs.setIfInBounds n (tearZ (vget c.logs n) (encP f).1 (vget c.tear n-1)) } n) n)).1=(readL (logL c n)).1:=by
        rw [hl,r1]
        split
        · exact .inl rfl
        · exact .inr rfl
      refine h.relog hn hinv rfl rfl (set_other hn) ?_ ?_ (set_len h hn hsz) fun k hk hdn => ?_
      · rcases hc with hc | hc
        · exact .inr ⟨f,hf,hfn,hk,by rw [dur_of hc,hnx]⟩
        · exact .inl (dur_of hc)
      · rcases hc with hc | hc
        · rw [hc,hnx]
        · rw [hc];exact h.rep n hn
      · have hdn:vget (c.down.setIfInBounds n true) k=false:=hdn
        have hkn:n≠k:=by
          rintro rfl
          rw [vget_set hn,if_pos rfl] at hdn
          cases hdn
        rw [vget_set hn,if_neg hkn] at hdn
        obtain ⟨v1,v2⟩:=h.up k hk hdn
        have e1:vget (c.nodes.setIfInBounds n zeroN) k=vget c.nodes k:=by rw [vget_set hn,if_neg hkn]
        have e2:=set_other (c:=c) (x:=tearZ (vget c.logs n) (encP f).1 (vget c.tear n-1)) hn k hk (Ne.symm hkn)
        refine ⟨?_,?_⟩
        · show vget (c.nodes.setIfInBounds n zeroN) k=(replayZ k (readL (vget (c.logs.setIfInBounds n _) k).data.toList).1 zeroN).1
          rw [e1,e2]
          exact v1
        · show (readL (vget (c.logs.setIfInBounds n _) k).data.toList).2=(vget (c.logs.setIfInBounds n _) k).size
          rw [e2]
          exact v2
    · have hwo:wout (vget c.logs n) (encP f).1=wtext (vget c.logs n) (encP f).1:=by unfold wout;rw [if_pos hw]
      rw [bif_f (dec_f ht),hw,bif_f (by rfl),hwo] at hinv ⊢
      refine ⟨?_,.inl rfl⟩
      have hnext:=whole_next hwhole (encP f).1 hs1 (by omega)
      have hinv0:CInv { c with logs:=c.logs.setIfInBounds n (wtext (vget c.logs n) (encP f).1),nodes:=c.nodes.setIfInBounds n (takeN (dur c n) n f).1 } net:=by
        have hw2:=wout_size (s:=(encP f).1) (h.inv.log n hn)
        rw [hwo] at hw2
        have h':=(h.inv.setLog hn hw2).setNode hn (x:=(takeN (dur c n) n f).1) (b:=false) (takeN_good t1) fun e=>by cases e
        have e:({ c with logs:=c.logs.setIfInBounds n (wtext (vget c.logs n) (encP f).1) }:GCluster).down.setIfInBounds n false=c.down:=set_down_same hd hn
        rw [e] at h'
        exact h'
      have hl:logL { c with logs:=c.logs.setIfInBounds n (wtext (vget c.logs n) (encP f).1),nodes:=c.nodes.setIfInBounds n (takeN (dur c n) n f).1 } n=(wtext (vget c.logs n) (encP f).1).data.toList:=congrArg (fun x:ByteArray=>x.data.toList) (set_this hn)
      have hc:(readL (logL { c with logs:=c.logs.setIfInBounds n (wtext (vget c.logs n) (encP f).1),nodes:=c.nodes.setIfInBounds n (takeN (dur c n) n f).1 } n)).1=(readL (logL c n)).1++[(encP f).1]:=by rw [hl,hnext]
      have hdn:dur { c with logs:=c.logs.setIfInBounds n (wtext (vget c.logs n) (encP f).1),nodes:=c.nodes.setIfInBounds n (takeN (dur c n) n f).1 } n=(takeN (dur c n) n f).1:=by rw [dur_of hc,hnx]
      obtain ⟨hg,hp⟩:=h.relog hn hinv0 rfl rfl (set_other hn) (.inr ⟨f,hf,hfn,hk,hdn⟩) (by rw [hc,hnx]) (set_len h hn (by rw [wtext_size];omega)) fun k hk hdk=>by
        by_cases e:k=n
        · subst e
          refine ⟨?_,?_⟩
          · rw [hdn]
            show vget (c.nodes.setIfInBounds k _) k=_
            rw [vget_set hn,if_pos rfl]
          · rw [hl,hnext]
            show (wtext _ _).size=(vget (c.logs.setIfInBounds k _) k).size
            rw [set_this hn]
        · obtain ⟨v1,v2⟩:=h.up k hk hdk
          have e2:=set_other (c:=c) (x:=wtext (vget c.logs n) (encP f).1) hn k hk e
          refine ⟨?_,?_⟩
          · show vget (c.nodes.setIfInBounds n _) k=(replayZ k (readL (vget (c.logs.setIfInBounds n _) k).data.toList).1 zeroN).1
            rw [vget_set hn,if_neg (Ne.symm e),e2]
            exact v1
          · show (readL (vget (c.logs.setIfInBounds n _) k).data.toList).2=(vget (c.logs.setIfInBounds n _) k).size
            rw [e2]
            exact v2
      refine ⟨hg,hp.send _ fun g hgm hz => ?_⟩
      obtain ⟨g1,g2,g3⟩:=t3 g hgm
      refine ⟨hz,?_⟩
      have:g.node.toNat=n:=by rw [g1];rfl
      rw [this,g2,hdn]
      have hgrow:=hg.cas f.id.toNat (by omega) hf.ent.beg
      have hs0:=((takeN_good t1).state (show f.id.toNat<32 by omega)).1
      exact NetE.grow hg (by rw [g2];omega) hs0 (Kp.refl _) g3
  · exact ⟨⟨.refl c,h.mono (by omega)⟩,.inr rfl⟩
end Go.Proofs.Yteilffoclpgijaa
namespace Go.Proofs.Yteilffoclpgijaa
open Go.RowKit
open Rep (rep)
theorem hasZ_iff {l:List Int} {n:Int}:hasZ l n=true↔n∈l:=by
  unfold hasZ
  rw [List.any_eq_true]
  constructor
  · rintro ⟨x,hx,e⟩
    rw [← beq_iff_eq.1 e]
    exact hx
  · exact fun h=>⟨n,h,by simp⟩
theorem mem_union {a b:List Int} {n:Int}:n∈unionZ a b↔(0≤n∧n<32)∧(n∈a∨n∈b):=by
  rw [← hasZ_iff,← hasZ_iff (l:=a),← hasZ_iff (l:=b)]
  unfold unionZ
  rw [has_unionTo,Bool.and_eq_true,decide_eq_true_eq,Bool.or_eq_true]
  exact Iff.rfl
theorem hasAt_zero {n:Nat} (k:Nat):hasAt (Zr.zd:Vector Bool n) k=false:=by
  show hasAt (Vector.replicate n false) k=false
  unfold hasAt
  by_cases hk:k<n<;>simp [hk]
theorem PInv.recase {c d:GCluster} {net:List ByteArray} {b:Nat} (h:PInv c net b) (hinv:CInv d net) (hl:d.logs=c.logs) (hn:d.nodes=c.nodes) (hd:d.down=c.down) (hcnt : ∀ i:Nat,i<32→(vget d.cases i).begun=decide ((i:Int)<d.begun))
    (hgc : ∀ i,i<32→(vget c.cases i).begun=true→(vget d.cases i).begun=true∧(vget d.cases i).ops=(vget c.cases i).ops∧((vget c.cases i).fixed=true→(vget d.cases i).fixed=true∧(vget d.cases i).deps=(vget c.cases i).deps))
    (hcas:Grow c d → ∀ i,i<32→(vget d.cases i).begun=true→CaseP d i):Grow c d∧PInv d net b:=by
  have hdur : ∀ n,dur d n=dur c n:=fun n=>by unfold dur;rw [hl]
  have hg:Grow c d:=⟨hgc,fun n _=>by rw [hdur];exact .refl _⟩
  refine ⟨hg,hinv,hcnt,fun n hn' => ?_,fun n hn' hd' => ?_,fun n hn'=>by rw [hl];exact h.len n hn',fun s hs => ?_,fun n hn' => ?_,hcas hg⟩
  · show (replayZ n (readL (vget d.logs n).data.toList).1 zeroN).2=0
    rw [hl]
    exact h.rep n hn'
  · rw [hd] at hd'
    obtain ⟨u1,u2⟩:=h.up n hn' hd'
    refine ⟨by rw [hdur,hn];exact u1,?_⟩
    show (readL (vget d.logs n).data.toList).2=(vget d.logs n).size
    rw [hl]
    exact u2
  · obtain ⟨f,e,hf⟩:=h.net s hs
    exact ⟨f,e,hf.grow hg⟩
  · rw [hdur]
    exact (h.node n hn').grow hg
theorem beginC_ok {t:GTxn} (h:(beginC t).2.2=0):goodOpsZ t.ops=true∧beginC t=(newC t.ops,againC (newC t.ops) t.id,0):=by
  unfold beginC at *
  cases h1:decide (0≤t.id∧t.id<32)
  · rw [h1] at h
    exact absurd (show (2:Int)=0 from h) (by decide)
  · rw [h1,cond_true] at h
    cases h2:goodOpsZ t.ops
    · rw [h2] at h
      exact absurd (show (1:Int)=0 from h) (by decide)
    · exact ⟨rfl,rfl⟩
theorem newC_caseP {d:GCluster} {i:Nat} {ops:List GOp} (he:vget d.cases i=newC ops):CaseP d i:=by
  refine ⟨fun k _ ht => ?_,fun x hx => ?_,fun hf => ?_,fun k hk => ?_⟩
  · rw [he] at ht
    have:=hasAt_zero (n:=6) k
    rw [show (newC ops).told=Zr.zd from rfl,this] at ht
    cases ht
  · rw [he] at hx
    cases hx
  · rw [he] at hf
    cases hf
  · rw [he] at hk
    have:=hasAt_zero (n:=4) k
    rw [show (newC ops).has=Zr.zd from rfl,this] at hk
    cases hk
theorem PInv.beginG {c:GCluster} {net:List ByteArray} {b:Nat} (h:PInv c net b) {ops:List GOp}:Grow c (begZ c net ops).2.1∧PInv (begZ c net ops).2.1 (begZ c net ops).2.2 b:=by
  obtain ⟨h0,h1⟩:=h.inv.begun
  have hinv:=h.inv.beg (ops:=ops)
  unfold begZ at hinv ⊢
  by_cases h32:c.begun≥32
  · rw [bif_t (dec_t h32)];exact ⟨.refl c,h⟩
  · rw [bif_f (dec_f h32)] at hinv ⊢
    by_cases hc:(beginC { id:=c.begun,ops:=ops }).2.2=0
    · obtain ⟨hgo,hbe⟩:=beginC_ok hc
      rw [bif_f (by simp [hc])] at hinv ⊢
      have hi:c.begun.toNat<32:=by omega
      have hiz:((c.begun.toNat:Nat):Int)=c.begun:=by omega
      have hset : ∀ k,vget (begC c ops).cases k=if c.begun.toNat=k then newC ops else vget c.cases k:=fun k=>by
        show vget (c.cases.setIfInBounds _ _) k=_
        rw [vget_set hi,hbe]
      have hnb : ∀ i:Nat,i<32→(vget c.cases i).begun=true→c.begun.toNat≠i:=fun i hi' hb e=>by
        rw [h.cnt i hi',decide_eq_true_eq] at hb
        omega
      have hinv0:CInv (begC c ops) net:=⟨hinv.acts,hinv.begun,hinv.node,hinv.down,hinv.log,hinv.tear,hinv.cas,h.inv.net⟩
      obtain ⟨hg,hp⟩:=h.recase (d:=begC c ops) hinv0 rfl rfl rfl (fun i hi'=>by
          rw [hset,show (begC c ops).begun=c.begun+1 from rfl]
          by_cases e:c.begun.toNat=i
          · rw [if_pos e,dec_t (by omega)];rfl
          · rw [if_neg e,h.cnt i hi']
            by_cases hlt:(i:Int)<c.begun
            · rw [dec_t hlt,dec_t (by omega)]
            · rw [dec_f hlt,dec_f (by omega)]) (fun i hi' hb=>by
          rw [hset,if_neg (hnb i hi' hb)]
          exact ⟨hb,rfl,fun hf=>⟨hf,rfl⟩⟩) (fun hg i hi' hb=>by
          by_cases e:c.begun.toNat=i
          · exact newC_caseP (ops:=ops) (by rw [hset,if_pos e])
          · rw [hset,if_neg e] at hb
            exact (h.cas i hi' hb).grow hg hi' (by rw [hset,if_neg e]))
      refine ⟨hg,hp.send _ fun f hf hz => ?_⟩
      rw [hbe] at hf
      have hthis:vget (begC c ops).cases c.begun.toNat=newC ops:=by rw [hset,if_pos rfl]
      refine againC_net (c:=begC c ops) hi (by rw [hthis];rfl) f ?_ hz
      rw [hthis,hiz]
      exact hf
    · rw [bif_t (by simp [hc])];exact ⟨.refl c,h⟩
theorem takeOk_cases {c:GCase} {id:Int} {f:GFrame} (hk:f.kind=2∨f.kind=4∨f.kind=5):(takeOk c id f).2.2=0 ∧
    ((((takeOk c id f).1.begun=c.begun∧(takeOk c id f).1.ops=c.ops∧(takeOk c id f).1.told=c.told∧(takeOk c id f).1.deps=c.deps∧(takeOk c id f).1.fixed=c.fixed)∧(takeOk c id f).2.1=[] ∧
      (((takeOk c id f).1.has=c.has∧(takeOk c id f).1.values=c.values)∨(f.kind=5∧c.fixed=true∧(takeOk c id f).1=doneL (ofZ f.node) c f.at_ f.vals))) ∨
    (f.kind=2∧c.fixed=false∧(takeOk c id f).1=fixC (toldC c f)∧(takeOk c id f).2.1=bif enoughC (toldC c f) then againC (fixC (toldC c f)) id else [])):=by
  unfold takeOk
  rcases hk with e | e | e
  · rw [e,show ((2:Int)==2)=true from rfl,cond_true]
    cases hf:(c.fixed||(hasAt c.told f.node.toNat || !touchesZ c.ops (ofZ f.node)))
    · rw [cond_false]
      refine ⟨rfl,.inr ⟨rfl,?_,rfl,rfl⟩⟩
      cases h:c.fixed
      · rfl
      · rw [h] at hf;cases hf
    · rw [cond_true]
      exact ⟨rfl,.inl ⟨⟨rfl,rfl,rfl,rfl,rfl⟩,rfl,.inl ⟨rfl,rfl⟩⟩⟩
  · rw [e,show ((4:Int)==2)=false from rfl,show ((4:Int)==4)=true from rfl,cond_false,cond_true]
    cases hf:c.fixed
    · exact ⟨rfl,.inl ⟨⟨rfl,rfl,rfl,rfl,hf⟩,rfl,.inl ⟨rfl,rfl⟩⟩⟩
    · exact ⟨rfl,.inl ⟨⟨rfl,rfl,rfl,rfl,rfl⟩,rfl,.inl ⟨rfl,rfl⟩⟩⟩
  · rw [e,show ((5:Int)==2)=false from rfl,show ((5:Int)==4)=false from rfl,show ((5:Int)==5)=true from rfl,cond_false,cond_false,cond_true]
    cases hf:c.fixed
    · exact ⟨rfl,.inl ⟨⟨rfl,rfl,rfl,rfl,hf⟩,rfl,.inl ⟨rfl,rfl⟩⟩⟩
    · obtain ⟨a1,a2,a3,a4,a5,_⟩:=doneL_same (sh:=ofZ f.node) (at_:=f.at_) (vs:=f.vals) (c:=c)
      exact ⟨rfl,.inl ⟨⟨a3,a1,a5,a4,a2.trans hf⟩,rfl,.inr ⟨rfl,rfl,rfl⟩⟩⟩
theorem doneL_has {sh:Int} : ∀ {at_ vs:List Int} {c:GCase} {k:Nat},(∀ n∈at_,0≤n∧n<4)→hasAt (doneL sh c at_ vs).has k=true →
    (hasAt c.has k=true∧(doneL sh c at_ vs).values[k]? = c.values[k]?) ∨ ∃ (m:Nat) (o:GOp),at_[m]? = some ((k:Nat):Int)∧vs[m]? = some ((doneL sh c at_ vs).values[k]?.getD 0)∧c.ops[k]? = some o∧shardZ o.key=sh
  | [],_,c,k,_,h=>by unfold doneL at *;exact .inl ⟨h,rfl⟩
  | _::_,[],c,k,_,h=>by unfold doneL at *;exact .inl ⟨h,rfl⟩
  | x::at_,v::vs,c,k,hm,h=>by
    rw [doneL] at h ⊢
    have hx:=hm x List.mem_cons_self
    have hops:=(doneStep_same (sh:=sh) (c:=c) (k:=x) (v:=v)).1
    rcases doneL_has (fun n hn=>hm n (List.mem_cons_of_mem _ hn)) h with ⟨h1,h2⟩ | ⟨m,o,h1,h2,h3,h4⟩
    · rw [h2]
      unfold doneStep at h1 ⊢
      cases hb:(decide (x<(c.ops.length:Int))&&(((idx c.ops x).map fun o=>shardZ o.key==sh).getD false && !hasAt c.has x.toNat))
      · rw [hb,cond_false] at h1
        rw [cond_false]
        exact .inl ⟨h1,rfl⟩
      · rw [hb,cond_true] at h1
        rw [cond_true]
        have h1:hasAt (c.has.setIfInBounds x.toNat true) k=true:=h1
        show (_∧(c.values.setIfInBounds x.toNat v)[k]? = _) ∨ ∃ (m:Nat) (o:GOp),_∧_=some ((c.values.setIfInBounds x.toNat v)[k]?.getD 0)∧_
        rw [hasAt_set (by omega)] at h1
        rw [Vector.getElem?_setIfInBounds]
        by_cases e:x.toNat=k
        · simp only [Bool.and_eq_true,decide_eq_true_eq] at hb
          obtain ⟨b1,b2,_⟩:=hb
          have hk4:x.toNat<4:=by omega
          rw [if_pos e,if_pos hk4]
          obtain ⟨o,ho⟩ : ∃ o,idx c.ops x=some o:=by
            unfold idx
            rw [if_pos hx.1]
            exact ⟨_,List.getElem?_eq_getElem (by omega)⟩
          rw [ho] at b2
          have ho':c.ops[k]? = some o:=by
            unfold idx at ho
            rw [if_pos hx.1,e] at ho
            exact ho
          exact .inr ⟨0,o,by rw [List.getElem?_cons_zero,← e];congr 1;omega,rfl,ho',by simpa using b2⟩
        · rw [if_neg e] at h1 ⊢
          exact .inl ⟨h1,rfl⟩
    · rw [hops] at h3
      exact .inr ⟨m+1,o,by rw [List.getElem?_cons_succ];exact h1,by rw [List.getElem?_cons_succ];exact h2,h3,h4⟩
theorem PInv.takeG {c:GCluster} {net:List ByteArray} {b:Nat} (h:PInv c net b) {f:GFrame} (hf:NetF c f) (hk:f.kind=2∨f.kind=4∨f.kind=5) :
    (takeC (vget c.cases f.id.toNat) f.id f).2.2=0∧Grow c { c with cases:=c.cases.setIfInBounds f.id.toNat (takeC (vget c.cases f.id.toNat) f.id f).1 }∧PInv { c with cases:=c.cases.setIfInBounds f.id.toNat (takeC (vget c.cases f.id.toNat) f.id f).1 } (sendZ net (takeC (vget c.cases f.id.toNat) f.id f).2.1) b:=by
  obtain ⟨_,hnr,hid⟩:=frameZ_in hf.good
  have hi:f.id.toNat<32:=by omega
  have hn:f.node.toNat<6:=by omega
  have hiz:((f.id.toNat:Nat):Int)=f.id:=by omega
  have hnz:((f.node.toNat:Nat):Int)=f.node:=by omega
  have hbeg:=hf.ent.beg
  have hg:=h.inv.cas _ hi
  have hcp:=h.cas _ hi hbeg
  have htk:takes (vget c.cases f.id.toNat) f.id f=true:=by
    unfold takes
    rw [hg,hbeg,beq_self_eq_true,Bool.true_and,Bool.true_and,Bool.true_and]
    cases hh:hasZ (vget c.cases f.id.toNat).deps f.id
    · rfl
    · obtain ⟨j,e1,_,e3,_⟩:=hcp.heard _ (hasZ_iff.1 hh)
      exact absurd (by omega) e3
  have htake:takeC (vget c.cases f.id.toNat) f.id f=takeOk (vget c.cases f.id.toNat) f.id f:=by
    unfold takeC
    rw [htk,hf.good]
    rfl
  have hgood:=takeC_good (id:=f.id) (f:=f) hg
  rw [htake] at hgood ⊢
  obtain ⟨h0,hcs⟩:=takeOk_cases (c:=vget c.cases f.id.toNat) (id:=f.id) hk
  refine ⟨h0,?_⟩
  have hset : ∀ k,vget ({ c with cases:=c.cases.setIfInBounds f.id.toNat (takeOk (vget c.cases f.id.toNat) f.id f).1 }:GCluster).cases k=if f.id.toNat=k then (takeOk (vget c.cases f.id.toNat) f.id f).1 else vget c.cases k:=fun k=>vget_set hi
  have hinv:=h.inv.setCase hi hgood
  have hnode:=h.node _ hn
  have hb1:(takeOk (vget c.cases f.id.toNat) f.id f).1.begun=true:=by
    rcases hcs with ⟨⟨e,_⟩,_⟩ | ⟨_,_,e,_⟩
    · rw [e];exact hbeg
    · rw [e];exact hbeg
  have ho1:(takeOk (vget c.cases f.id.toNat) f.id f).1.ops=(vget c.cases f.id.toNat).ops:=takeOk_small.1
  have hbegs : ∀ j,(vget ({ c with cases:=c.cases.setIfInBounds f.id.toNat (takeOk (vget c.cases f.id.toNat) f.id f).1 }:GCluster).cases j).begun=(vget c.cases j).begun:=fun j=>by
    rw [hset]
    by_cases e:f.id.toNat=j
    · rw [if_pos e,hb1,← e,hbeg]
    · rw [if_neg e]
  have hhear : ∀ d∈f.deps,f.kind=2 → ∃ j:Nat,d=j∧j<32∧j≠f.id.toNat∧(vget c.cases j).begun=true:=fun d hd h2=>by
    obtain ⟨t1,t2⟩:=hf.ent.told h2
    rw [t2] at hd
    obtain ⟨j,e1,e2,e3,e4⟩:=hnode.heard _ hi t1 d hd
    exact ⟨j,e1,e2,e3,(hnode.beg j e2 e4).1⟩
  obtain ⟨hgr,hp⟩:=h.recase (d:={ c with cases:=c.cases.setIfInBounds f.id.toNat (takeOk (vget c.cases f.id.toNat) f.id f).1 }) hinv rfl rfl rfl (fun i hi'=>by rw [hbegs];exact h.cnt i hi') (fun i hi' hb=>by
      rw [hset]
      by_cases e:f.id.toNat=i
      · rw [if_pos e,← e]
        refine ⟨hb1,ho1,fun hfx => ?_⟩
        rcases hcs with ⟨⟨_,_,_,e4,e5⟩,_⟩ | ⟨_,e2,_,_⟩
        · exact ⟨e5.trans hfx,e4⟩
        · rw [hfx] at e2;cases e2
      · rw [if_neg e]
        exact ⟨hb,rfl,fun hfx=>⟨hfx,rfl⟩⟩) (fun hgr i hi' hb=>by
      by_cases e:f.id.toNat=i
      · subst e
        have hthis:=hset f.id.toNat
        rw [if_pos rfl] at hthis
        rcases hcs with ⟨⟨_,e2,e3,e4,e5⟩,_,e6⟩ | ⟨h2,hnf,e,_⟩
        · refine ⟨fun k hk ht => ?_,fun d hd => ?_,fun hfx => ?_,fun k hk => ?_⟩
          · rw [hthis,e3] at ht
            rw [hthis,e4]
            exact hcp.told k hk ht
          · rw [hthis,e4] at hd
            obtain ⟨j,a1,a2,a3,a4⟩:=hcp.heard d hd
            exact ⟨j,a1,a2,a3,by rw [hbegs];exact a4⟩
          · rw [hthis] at hfx ⊢
            rw [e5] at hfx
            rw [enoughC_same e2 e3]
            exact hcp.fix hfx
          · rw [hthis] at hk ⊢
            rw [e2,e5]
            rcases e6 with ⟨e7,e8⟩ | ⟨h5,hfx,e7⟩
            · rw [e7] at hk
              rw [e8]
              exact hcp.done k hk
            · rw [e7] at hk ⊢
              rcases doneL_has (AtOk_of hf.good).mem hk with ⟨a1,a2⟩ | ⟨m,o,a1,a2,a3,a4⟩
              · rw [a2]
                exact hcp.done k a1
              · obtain ⟨d1,d2,d3⟩:=hf.ent.done h5
                replace a1:=(congrArg (fun l:List Int=>l[m]?) d2).symm.trans a1
                replace a2:=(congrArg (fun l:List Int=>l[m]?) d3).symm.trans a2
                exact ⟨hfx,f.node.toNat,m,o,hn,d1,a1,a2,a3,by rw [hnz];exact a4⟩
        · replace hthis:=hthis.trans e
          refine ⟨fun k hk ht => ?_,fun d hd => ?_,fun hfx => ?_,fun k hk => ?_⟩
          · rw [hthis] at ht ⊢
            have ht:hasAt ((vget c.cases f.id.toNat).told.setIfInBounds f.node.toNat true) k=true:=ht
            rw [hasAt_set hn] at ht
            show _ ∧ ∀ d∈(eat (dur c k).entries f.id.toNat).first,d∈unionZ (vget c.cases f.id.toNat).deps f.deps
            by_cases e':f.node.toNat=k
            · subst e'
              obtain ⟨t1,t2⟩:=hf.ent.told h2
              refine ⟨t1,fun d hd=>mem_union.2 ⟨?_,.inr (by rw [t2];exact hd)⟩⟩
              obtain ⟨j,a1,a2,_⟩:=hnode.heard _ hi t1 d hd
              omega
            · rw [if_neg e'] at ht
              obtain ⟨t1,t2⟩:=hcp.told k hk ht
              refine ⟨t1,fun d hd=>mem_union.2 ⟨?_,.inl (t2 d hd)⟩⟩
              obtain ⟨j,a1,a2,_⟩:=hcp.heard d (t2 d hd)
              omega
          · rw [hthis] at hd
            have hd:d∈unionZ (vget c.cases f.id.toNat).deps f.deps:=hd
            rcases (mem_union.1 hd).2 with hd | hd
            · obtain ⟨j,a1,a2,a3,a4⟩:=hcp.heard d hd
              exact ⟨j,a1,a2,a3,by rw [hbegs];exact a4⟩
            · obtain ⟨j,a1,a2,a3,a4⟩:=hhear d hd h2
              exact ⟨j,a1,a2,a3,by rw [hbegs];exact a4⟩
          · rw [hthis] at hfx ⊢
            have hfx:enoughC (toldC (vget c.cases f.id.toNat) f)=true:=hfx
            rw [← hfx]
            exact enoughC_same rfl rfl
          · rw [hthis] at hk
            have:=(hcp.done k hk).1
            rw [hnf] at this
            cases this
      · rw [hbegs] at hb
        exact (h.cas i hi' hb).grow hgr hi' (by rw [hset,if_neg e]))
  refine ⟨hgr,hp.send _ fun g hgm hz => ?_⟩
  have hthis:=hset f.id.toNat
  rw [if_pos rfl] at hthis
  refine againC_net (c:={ c with cases:=c.cases.setIfInBounds f.id.toNat (takeOk (vget c.cases f.id.toNat) f.id f).1 }) hi (by rw [hthis];exact hb1) g ?_ hz
  rw [hthis,hiz]
  rcases hcs with ⟨_,e,_⟩ | ⟨_,_,e1,e2⟩
  · rw [e] at hgm;cases hgm
  · rw [e2] at hgm
    rw [e1]
    cases he:enoughC (toldC (vget c.cases f.id.toNat) f)
    · rw [he] at hgm;cases hgm
    · rw [he] at hgm;exact hgm
end Go.Proofs.Yteilffoclpgijaa
namespace Go.Proofs.Yteilffoclpgijaa
open Go.RowKit
open Rep (rep)
theorem PInv.keepG {c d:GCluster} {net:List ByteArray} {b:Nat} (h:PInv c net b) (hinv:CInv d net) (hl:d.logs=c.logs) (hn:d.nodes=c.nodes) (hd:d.down=c.down) (hc:d.cases=c.cases) (hb:d.begun=c.begun):Grow c d∧PInv d net b :=
  h.recase hinv hl hn hd (fun i hi=>by rw [hc,hb];exact h.cnt i hi) (fun i _ hb=>by rw [hc];exact ⟨hb,rfl,fun hf=>⟨hf,rfl⟩⟩) fun hg i hi hb=>(h.cas i hi (by rw [← hc];exact hb)).grow hg hi (by rw [hc])
theorem PInv.fallG {c:GCluster} {net:List ByteArray} {b n:Nat} (h:PInv c net b) (hn:n<6):Grow c (fallZ c n)∧PInv (fallZ c n) net b :=
  h.relog (d:=fallZ c n) (b':=b) hn (h.inv.fall hn) rfl rfl (fun _ _ _=>rfl) (.inl rfl) (h.rep n hn) h.len fun k hk hdn=>by
    have hdn:vget (c.down.setIfInBounds n true) k=false:=hdn
    have hkn:n≠k:=by
      rintro rfl
      rw [vget_set hn,if_pos rfl] at hdn
      cases hdn
    rw [vget_set hn,if_neg hkn] at hdn
    obtain ⟨v1,v2⟩:=h.up k hk hdn
    refine ⟨?_,v2⟩
    show vget (c.nodes.setIfInBounds n zeroN) k=_
    rw [vget_set hn,if_neg hkn]
    exact v1
theorem readL_cut : ∀ (n:Nat) (l:List UInt8),l.length≤n→readL (l.take (readL l).2)=readL l
  | n,[],_=>by rw [readL_short (l:=[]) (by simp)];exact readL_short (by simp)
  | n,[x],_=>by rw [readL_short (l:=[x]) (by simp)];exact readL_short (by simp)
  | 0,a::b::r,h=>by simp at h
  | n+1,a::b::r,h=>by
    by_cases hk:1≤recN a b∧recN a b≤400∧recN a b≤r.length
    · have ih:=readL_cut n (r.drop (recN a b)) (by simp at h ⊢;omega)
      obtain ⟨hsm,_⟩:=readL_small _ (r.drop (recN a b)) (Nat.le_refl _)
      rw [List.length_drop] at hsm
      have hgo:=readL_go hk
      have e:(a::b::r).take (readL (a::b::r)).2=a::b::r.take (recN a b+(readL (r.drop (recN a b))).2):=by
        rw [hgo,show 2+recN a b+(readL (r.drop (recN a b))).2=(recN a b+(readL (r.drop (recN a b))).2)+1+1 by omega,List.take_succ_cons,List.take_succ_cons]
      have hk':1≤recN a b∧recN a b≤400∧recN a b≤(r.take (recN a b+(readL (r.drop (recN a b))).2)).length:=⟨hk.1,hk.2.1,by rw [List.length_take];omega⟩
      have e1:(r.take (recN a b+(readL (r.drop (recN a b))).2)).take (recN a b)=r.take (recN a b):=by rw [List.take_take,Nat.min_eq_left (by omega)]
      have e2:(r.take (recN a b+(readL (r.drop (recN a b))).2)).drop (recN a b)=(r.drop (recN a b)).take (readL (r.drop (recN a b))).2:=by rw [List.drop_take,Nat.add_sub_cancel_left]
      rw [e,readL_go hk',e1,e2,ih,hgo]
    · rw [readL_stop hk]
      exact readL_short (by simp)
theorem cut_log (log:ByteArray):readL (log.extract 0 (readL log.data.toList).2).data.toList=readL log.data.toList:=by
  have e:(log.extract 0 (readL log.data.toList).2).data.toList=log.data.toList.take (readL log.data.toList).2:=by
    rw [Go.Lib.extract_data]
    simp
  rw [e]
  exact readL_cut _ _ (Nat.le_refl _)
theorem rise_dur {c:GCluster} {n:Nat} (hn:n<6):dur (riseZ c n) n=dur c n:=by
  unfold dur riseZ
  dsimp only
  rw [vget_set hn,if_pos rfl,cut_log]
theorem PInv.riseG {c:GCluster} {net:List ByteArray} {b n:Nat} (h:PInv c net b) (hn:n<6):Grow c (riseZ c n)∧PInv (riseZ c n) net b:=by
  have hlog:=h.inv.log n hn
  have hdl:(vget c.logs n).data.toList.length=(vget c.logs n).size:=rfl
  obtain ⟨r1,_⟩:=readL_small _ (vget c.logs n).data.toList (Nat.le_refl _)
  have hinv:CInv (riseZ c n) net:=(h.inv.setLog hn (x:=(vget c.logs n).extract 0 (readL (vget c.logs n).data.toList).2) (by rw [ByteArray.size_extract];omega)).setNode hn (b:=false) (replayZ_good _ zero_good) fun e=>by cases e
  have hthis:vget (riseZ c n).logs n=(vget c.logs n).extract 0 (readL (vget c.logs n).data.toList).2:=by
    show vget (c.logs.setIfInBounds n _) n=_
    rw [vget_set hn,if_pos rfl]
  have hread:readL (logL (riseZ c n) n)=readL (logL c n):=by
    show readL (vget (riseZ c n).logs n).data.toList=_
    rw [hthis,cut_log]
  refine h.relog (d:=riseZ c n) (b':=b) hn hinv rfl rfl (fun k hk hkn => ?_) (.inl (rise_dur hn)) ?_ (fun k hk => ?_) fun k hk hdn => ?_
  · show vget (c.logs.setIfInBounds n _) k=_
    rw [vget_set hn,if_neg (Ne.symm hkn)]
  · rw [hread];exact h.rep n hn
  · by_cases e:n=k
    · subst e
      rw [hthis,ByteArray.size_extract]
      have:=h.len n hn
      omega
    · show (vget (c.logs.setIfInBounds n _) k).size≤b
      rw [vget_set hn,if_neg e]
      exact h.len k hk
  · by_cases e:n=k
    · subst e
      refine ⟨?_,?_⟩
      · rw [rise_dur hn]
        show vget (c.nodes.setIfInBounds n _) n=_
        rw [vget_set hn,if_pos rfl]
        rfl
      · rw [hread,hthis,ByteArray.size_extract]
        show (readL (vget c.logs n).data.toList).2=_
        omega
    · have hdn:vget (c.down.setIfInBounds n false) k=false:=hdn
      rw [vget_set hn,if_neg e] at hdn
      obtain ⟨v1,v2⟩:=h.up k hk hdn
      have e1:vget (riseZ c n).logs k=vget c.logs k:=by
        show vget (c.logs.setIfInBounds n _) k=_
        rw [vget_set hn,if_neg e]
      refine ⟨?_,?_⟩
      · show vget (c.nodes.setIfInBounds n _) k=(replayZ k (readL (vget (riseZ c n).logs k).data.toList).1 zeroN).1
        rw [vget_set hn,if_neg e,e1]
        exact v1
      · show (readL (vget (riseZ c n).logs k).data.toList).2=(vget (riseZ c n).logs k).size
        rw [e1]
        exact v2
theorem PInv.fall {c:GCluster} {net:List ByteArray} {b n:Nat} (h:PInv c net b) (hn:n<6):PInv (fallZ c n) net b:=(h.fallG hn).2
theorem PInv.powG {c:GCluster} {net:List ByteArray} {b:Nat} (h:PInv c net b) {a:GAct}:Grow c (powZ c net a).2.1∧PInv (powZ c net a).2.1 (powZ c net a).2.2 b:=by
  have hinv:=h.inv.pow (a:=a)
  unfold powZ at hinv ⊢
  cases hp:powOk a
  · exact ⟨.refl c,h⟩
  · rw [hp,cond_true] at hinv
    unfold powOk at hp
    simp only [Bool.and_eq_true,decide_eq_true_eq] at hp
    obtain ⟨⟨h0,h6⟩,hm⟩:=hp
    have hn:a.n.toNat<6:=by omega
    rw [cond_true]
    cases hd:(!(vget c.down a.n.toNat==(a.kind==8)))
    · rw [hd,cond_false] at hinv
      rw [cond_false]
      cases h7:(a.kind==7)
      · rw [cond_false]
        cases (a.kind==6)
        · exact h.riseG hn
        · exact h.fallG hn
      · rw [h7,cond_true] at hinv
        exact h.keepG hinv rfl rfl rfl rfl rfl
    · exact ⟨.refl c,h⟩
theorem enc_read {f:GFrame} (h:frameZ f=0):(decZ (byL (encP f).1)).1=f:=by
  obtain ⟨_,e,_⟩:=dec_enc h
  rw [e]
theorem PInv.frm2G {c:GCluster} {net:List ByteArray} {b:Nat} (h:PInv c net b) (hb:b≤60000) {kind:Int} {f:GFrame} (hf:NetF c f) :
    (Grow c (frm2 c net kind f (encP f).1).2.1∧PInv (frm2 c net kind f (encP f).1).2.1 (frm2 c net kind f (encP f).1).2.2 (b+102))∧((frm2 c net kind f (encP f).1).1.code=0∨(frm2 c net kind f (encP f).1).1.code=6):=by
  obtain ⟨hkr,hn,hid⟩:=frameZ_in hf.good
  unfold Go.Proofs.Yteilffoclpgijaa.frm2
  cases (kind==4)
  · rw [cond_false]
    cases hk:(f.kind==1||f.kind==3)
    · rw [cond_false]
      simp only [Bool.or_eq_false_iff,beq_eq_false_iff_ne,ne_eq] at hk
      obtain ⟨h0,hg,hp⟩:=h.takeG hf (by omega)
      rw [bif_f (by simp [h0])]
      exact ⟨⟨hg,hp.mono (by omega)⟩,.inl rfl⟩
    · rw [cond_true]
      simp only [Bool.or_eq_true,beq_iff_eq] at hk
      obtain ⟨hp,h0⟩:=h.comeG hb (n:=f.node.toNat) (by omega) hf (by omega) hk
      refine ⟨hp,?_⟩
      dsimp only
      rcases h0 with h0 | h0
      · rw [bif_f (by simp [h0])];exact .inl rfl
      · rw [bif_t (by simp [h0])];exact .inr h0
  · exact ⟨⟨.refl c,h.mono (by omega)⟩,.inl rfl⟩
theorem PInv.text {c:GCluster} {net:List ByteArray} {b:Nat} (h:PInv c net b) {x:Int} (hx:0≤x∧x<net.length):NetF c (frameAt net x)∧textAt net x=(encP (frameAt net x)).1:=by
  have hlt:x.toNat<net.length:=by omega
  have e:textAt net x=net[x.toNat]:=by
    unfold textAt
    rw [List.getElem?_eq_getElem hlt]
    rfl
  obtain ⟨f,e1,hf⟩:=h.net _ (List.getElem_mem hlt)
  have e2:frameAt net x=f:=by
    unfold frameAt
    rw [e,e1,enc_read hf.good]
  rw [e2,e,e1]
  exact ⟨hf,rfl⟩
theorem PInv.frmG {c:GCluster} {net:List ByteArray} {b:Nat} (h:PInv c net b) (hb:b≤60000) {a:GAct}:(Grow c (frmZ c net a).2.1∧PInv (frmZ c net a).2.1 (frmZ c net a).2.2 (b+102))∧((frmZ c net a).1.code=0∨(frmZ c net a).1.code=6∨(frmZ c net a).1=errR 4∧(frmZ c net a).2=(c,net)):=by
  unfold frmZ
  by_cases hx:0≤a.n∧a.n<net.length
  · rw [bif_t (dec_t hx)]
    obtain ⟨hf,e⟩:=h.text hx
    rw [e]
    have hp:PInv c (bif a.kind==3 then net else net.eraseIdx a.n.toNat) b:=by
      cases (a.kind==3)
      · exact h.cut (fun s hs=>List.mem_of_mem_eraseIdx hs) (List.length_eraseIdx_le ..)
      · exact h
    obtain ⟨h1,h2⟩:=hp.frm2G hb (kind:=a.kind) hf
    exact ⟨h1,h2.imp_right .inl⟩
  · rw [bif_f (dec_f hx)]
    exact ⟨⟨.refl c,h.mono (by omega)⟩,.inr (.inr ⟨rfl,rfl⟩)⟩
theorem PInv.frm {c:GCluster} {net:List ByteArray} {b:Nat} (h:PInv c net b) (hb:b≤60000) {a:GAct}:PInv (frmZ c net a).2.1 (frmZ c net a).2.2 (b+102)∧((frmZ c net a).1.code=0∨(frmZ c net a).1.code=6∨(frmZ c net a).1=errR 4∧(frmZ c net a).2=(c,net)):=⟨(h.frmG hb).1.2,(h.frmG hb).2⟩
theorem PInv.aga {c:GCluster} {net:List ByteArray} {b:Nat} (h:PInv c net b) {a:GAct}:PInv (agaZ c net a).2.1 (agaZ c net a).2.2 b:=by
  unfold agaZ
  by_cases hx:0≤a.n∧a.n<c.begun
  · have:=h.inv.begun.2
    have hi:a.n.toNat<32:=by omega
    have e:((a.n.toNat:Nat):Int)=a.n:=by omega
    rw [bif_t (dec_t hx)]
    refine h.send _ fun f hf hz=>againC_net hi ?_ f (by rw [e];exact hf) hz
    rw [h.cnt _ hi,decide_eq_true_eq]
    omega
  · rw [bif_f (dec_f hx)]
    exact h
theorem PInv.actsG {c:GCluster} {net:List ByteArray} {b:Nat} (h:PInv c net b) (ha : ¬ c.acts≥400):Grow c { c with acts:=c.acts+1 }∧PInv { c with acts:=c.acts+1 } net b :=
  h.keepG (h.inv.act ha) rfl rfl rfl rfl rfl
theorem PInv.acts {c:GCluster} {net:List ByteArray} {b:Nat} (h:PInv c net b) (ha : ¬ c.acts≥400):PInv { c with acts:=c.acts+1 } net b:=(h.actsG ha).2
theorem aga_same {c:GCluster} {net:List ByteArray} {a:GAct}:(agaZ c net a).2.1=c:=by
  unfold agaZ
  cases decide (0≤a.n∧a.n<c.begun)<;>rfl
theorem PInv.doAG {c:GCluster} {net:List ByteArray} {b:Nat} (h:PInv c net b) (hb:b≤60000) {a:GAct}:Grow c (doA c net a).2.1∧PInv (doA c net a).2.1 (doA c net a).2.2 (b+102):=by
  unfold Go.Proofs.Yteilffoclpgijaa.doA
  cases (a.kind==1)
  · rw [cond_false]
    cases (a.kind==2||(a.kind==3||a.kind==4))
    · rw [cond_false]
      cases (a.kind==5)
      · rw [cond_false]
        cases (a.kind==6||(a.kind==7||a.kind==8))
        · exact ⟨.refl c,h.mono (by omega)⟩
        · exact ⟨h.powG.1,h.powG.2.mono (by omega)⟩
      · refine ⟨?_,h.aga.mono (by omega)⟩
        rw [cond_true,aga_same]
        exact .refl c
    · exact (h.frmG hb).1
  · exact ⟨h.beginG.1,h.beginG.2.mono (by omega)⟩
theorem Grow.of_acts {c d:GCluster} {k:Int} (h:Grow { c with acts:=k } d):Grow c d:=⟨h.cas,h.durs⟩
theorem PInv.actG {c:GCluster} {net:List ByteArray} {b:Nat} (h:PInv c net b) (hb:b≤60000) {a:GAct}:Grow c (actZ c net a).2.1∧PInv (actZ c net a).2.1 (actZ c net a).2.2 (b+102):=by
  unfold actZ
  by_cases ha:c.acts≥400
  · rw [bif_t (dec_t ha)];exact ⟨.refl c,h.mono (by omega)⟩
  · rw [bif_f (dec_f ha)]
    have h2:=(h.actsG ha).2.doAG hb (a:=a)
    exact ⟨h2.1.of_acts,h2.2⟩
theorem PInv.act {c:GCluster} {net:List ByteArray} {b:Nat} (h:PInv c net b) (hb:b≤60000) {a:GAct}:PInv (actZ c net a).2.1 (actZ c net a).2.2 (b+102):=(h.actG hb).2
theorem new_case (i:Nat):vget newCl.cases i=noC:=vget_zero i
theorem new_log (i:Nat):vget newCl.logs i=⟨#[]⟩:=vget_zero i
theorem new_dur (n:Nat):dur newCl n=zeroN:=by
  unfold dur
  rw [new_log,readL_short (by simp)]
  rfl
theorem new_pinv:PInv newCl [] 0:=by
  refine ⟨new_inv,fun i _ => ?_,fun n _ => ?_,fun n _ _=>⟨?_,?_⟩,fun n _ => ?_,fun s hs=>absurd hs List.not_mem_nil,fun n _ => ?_,fun i _ hb => ?_⟩
  · rw [new_case,dec_f (show ¬ ((i:Int)<newCl.begun) by show ¬ ((i:Int)<0);omega)]
    rfl
  · show (replayZ n (readL (vget newCl.logs n).data.toList).1 zeroN).2=0
    rw [new_log,readL_short (by simp)]
    rfl
  · rw [new_dur]
    show vget (Zr.zd:Vector GNode 6) n=_
    rw [vget_zero]
    rfl
  · show (readL (vget newCl.logs n).data.toList).2=(vget newCl.logs n).size
    rw [new_log,readL_short (by simp)]
    rfl
  · rw [new_log]
    exact Nat.le_refl _
  · rw [new_dur]
    exact zero_nodeP _ _
  · rw [new_case] at hb
    cases hb
end Go.Proofs.Yteilffoclpgijaa
namespace Go.Proofs.Yteilffoclpgijaa
open Go.RowKit
open Rep (rep)
def keyrun (x:Int) (l:List GOp) (v:Int):Int:=l.foldl (fun v o=>if o.key=x then doZ v o else v) v
theorem keyrun_cons {x:Int} {o:GOp} {l:List GOp} {v:Int}:keyrun x (o::l) v=keyrun x l (if o.key=x then doZ v o else v):=rfl
theorem doOps_val {sh x:Int} (h0:0≤x) (h8:x<8) (hs:shardZ x=sh) : ∀ (l:List GOp) (i:Nat) (v:Vector Int 8) (a b:List Int),KeyOk l→vat (doOps sh i l v a b).1 x.toNat=keyrun x l (vat v x.toNat)
  | [],_,_,_,_,_=>rfl
  | o::t,i,v,a,b,hk=>by
    have ho:=hk o List.mem_cons_self
    have ih:=fun v a b=>doOps_val h0 h8 hs t (i+1) v a b fun x hx=>hk x (List.mem_cons_of_mem _ hx)
    rw [doOps,keyrun_cons]
    cases h:(shardZ o.key==sh)
    · rw [cond_false,ih,if_neg]
      intro e
      rw [e,hs] at h
      simp at h
    · rw [cond_true,ih,vat_set (by omega)]
      by_cases e:o.key=x
      · rw [if_pos (by rw [e]),if_pos e,e]
      · rw [if_neg (by omega),if_neg e]
theorem doOps_told {sh:Int} : ∀ (l:List GOp) (i:Nat) (v:Vector Int 8) (a b:List Int),KeyOk l → ∃ L R,(doOps sh i l v a b).2.1=a++L∧(doOps sh i l v a b).2.2=b++R ∧
    ∀ (m:Nat) (j:Int),L[m]? = some j → ∃ (p:Nat) (o:GOp),j=((i+p:Nat):Int)∧l[p]? = some o∧shardZ o.key=sh∧R[m]? = some (keyrun o.key (l.take (p+1)) (vat v o.key.toNat))
  | [],_,_,a,b,_=>⟨[],[],(List.append_nil a).symm,(List.append_nil b).symm,fun m j h=>by simp at h⟩
  | o::t,i,v,a,b,hk=>by
    have ho:=hk o List.mem_cons_self
    rw [doOps]
    cases h:(shardZ o.key==sh)
    · obtain ⟨L,R,e1,e2,e3⟩:=doOps_told (sh:=sh) t (i+1) v a b fun x hx=>hk x (List.mem_cons_of_mem _ hx)
      rw [cond_false]
      refine ⟨L,R,e1,e2,fun m j hj => ?_⟩
      obtain ⟨p,u,a1,a2,a3,a4⟩:=e3 m j hj
      refine ⟨p+1,u,by rw [a1];omega,by rw [List.getElem?_cons_succ];exact a2,a3,?_⟩
      rw [a4,List.take_succ_cons,keyrun_cons,if_neg]
      intro e
      rw [e,a3] at h
      simp at h
    · have hs:shardZ o.key=sh:=by simpa using h
      obtain ⟨L,R,e1,e2,e3⟩:=doOps_told (sh:=sh) t (i+1) (v.setIfInBounds o.key.toNat (doZ (vat v o.key.toNat) o)) (a++[(i:Int)]) (b++[doZ (vat v o.key.toNat) o]) fun x hx=>hk x (List.mem_cons_of_mem _ hx)
      rw [cond_true]
      refine ⟨(i:Int)::L,doZ (vat v o.key.toNat) o::R,by rw [e1];simp,by rw [e2];simp,fun m j hj => ?_⟩
      cases m with
      | zero =>
        rw [List.getElem?_cons_zero] at hj
        refine ⟨0,o,by rw [← Option.some.inj hj];omega,rfl,hs,?_⟩
        rw [List.getElem?_cons_zero,List.take_succ_cons,keyrun_cons,if_pos rfl]
        rfl
      | succ m =>
        rw [List.getElem?_cons_succ] at hj
        obtain ⟨p,u,a1,a2,a3,a4⟩:=e3 m j hj
        have hu:=hk u (List.mem_cons_of_mem _ (List.mem_of_getElem? a2))
        refine ⟨p+1,u,by rw [a1];omega,by rw [List.getElem?_cons_succ];exact a2,a3,?_⟩
        rw [List.getElem?_cons_succ,a4,List.take_succ_cons,keyrun_cons,vat_set (by omega)]
        by_cases e:o.key=u.key
        · rw [if_pos (by rw [e]),if_pos e,e]
        · rw [if_neg (by omega),if_neg e]
def runF (sh:Int) (E:Vector GEntry 32):List Int→Vector Int 8→Vector Int 8
  | [],v=>v
  | n::t,v=>runF sh E t (doOps sh 0 (eat E n.toNat).ops v [] []).1
theorem runF_snoc {sh:Int} {E:Vector GEntry 32} {n:Int} : ∀ (l:List Int) (v:Vector Int 8),runF sh E (l++[n]) v=(doOps sh 0 (eat E n.toNat).ops (runF sh E l v) [] []).1
  | [],_=>rfl
  | _::t,_=>runF_snoc t _
theorem runF_congr {sh:Int} {E E':Vector GEntry 32} : ∀ (l:List Int) (v:Vector Int 8),(∀ n∈l,(eat E' n.toNat).ops=(eat E n.toNat).ops)→runF sh E' l v=runF sh E l v
  | [],_,_=>rfl
  | n::t,v,h=>by
    rw [runF,runF,h n List.mem_cons_self]
    exact runF_congr t _ fun x hx=>h x (List.mem_cons_of_mem _ hx)
structure Vals (sh:Int) (s:GNode):Prop where
  now:s.values=runF sh s.entries s.order Zr.zd
  told : ∀ A n B,s.order=A++n::B→((eat s.entries n.toNat).at_,(eat s.entries n.toNat).values)=(doOps sh 0 (eat s.entries n.toNat).ops (runF sh s.entries A Zr.zd) [] []).2
theorem Vals.of {sh:Int} {s t:GNode} (h:Vals sh s) (ho:t.order=s.order) (hv:t.values=s.values) (he : ∀ n∈s.order,eat t.entries n.toNat=eat s.entries n.toNat):Vals sh t:=by
  refine ⟨?_,fun A n B hs => ?_⟩
  · rw [hv,ho,h.now]
    exact (runF_congr _ _ fun n hn=>by rw [he n hn]).symm
  · rw [ho] at hs
    have hin : ∀ x∈A,x∈s.order:=fun x hx=>by rw [hs];exact List.mem_append_left _ hx
    have hn:n∈s.order:=by rw [hs];exact List.mem_append_right _ List.mem_cons_self
    rw [he n hn,runF_congr (E:=s.entries) A _ fun x hx=>by rw [he x (hin x hx)]]
    exact h.told A n B hs
theorem Vals.zero (sh:Int):Vals sh zeroN:=⟨rfl,fun A n B h=>by
  have h:([]:List Int)=A++n::B:=h
  simp at h⟩
theorem Vals.one {sh:Int} {s:GNode} (h:Vals sh s) (hg:GoodN s) {n:Nat} (hn:n<32) (h2:(eat s.entries n).state=2):Vals sh (oneZ s n sh):=by
  have hnot:((n:Nat):Int)∉s.order:=fun hin=>by
    have:=(hg.done hn).2 hin
    omega
  have hne : ∀ m∈s.order,n≠m.toNat:=fun m hm e=>by
    have:=(hg.inr m hm).1
    exact hnot (by rw [e,Int.toNat_of_nonneg this];exact hm)
  have hat : ∀ k,eat (oneZ s n sh).entries k=if n=k then doneE (eat s.entries n) (doOps sh 0 (eat s.entries n).ops s.values [] []).2.1 (doOps sh 0 (eat s.entries n).ops s.values [] []).2.2 else eat s.entries k:=fun k=>eat_setI hn
  have hkeep : ∀ m∈s.order,eat (oneZ s n sh).entries m.toNat=eat s.entries m.toNat:=fun m hm=>by rw [hat,if_neg (hne m hm)]
  have hself:eat (oneZ s n sh).entries ((n:Nat):Int).toNat=doneE (eat s.entries n) (doOps sh 0 (eat s.entries n).ops s.values [] []).2.1 (doOps sh 0 (eat s.entries n).ops s.values [] []).2.2:=by
    rw [hat,Int.toNat_natCast,if_pos rfl]
  have hrun:runF sh (oneZ s n sh).entries s.order Zr.zd=s.values:=by
    rw [h.now]
    exact runF_congr _ _ fun m hm=>by rw [hkeep m hm]
  have hord:(oneZ s n sh).order=s.order++[(n:Int)]:=rfl
  refine ⟨?_,fun A m B hs => ?_⟩
  · rw [hord,runF_snoc,hself,hrun]
    rfl
  · rw [hord] at hs
    rcases List.eq_nil_or_concat B with rfl | ⟨B',x,rfl⟩
    · obtain ⟨e1,e2⟩:=List.append_inj' hs rfl
      have e2:((n:Nat):Int)=m:=(List.cons.inj e2).1
      rw [← e1,← e2,hself,hrun]
      rfl
    · have hs:s.order++[(n:Int)]=(A++m::B')++[x]:=by rw [hs];simp
      obtain ⟨e1,_⟩:=List.append_inj' hs rfl
      have hin : ∀ x∈A,x∈s.order:=fun x hx=>by rw [e1];exact List.mem_append_left _ hx
      have hm:m∈s.order:=by rw [e1];exact List.mem_append_right _ List.mem_cons_self
      rw [hkeep m hm,runF_congr (E:=s.entries) A _ fun x hx=>by rw [hkeep x (hin x hx)]]
      exact h.told A m B' e1
theorem Vals.step {sh:Int} {s:GNode} (h:Vals sh s) (hg:GoodN s) {m:Nat} (hm:m<32):Vals sh (stepZ sh s m):=by
  unfold stepZ
  cases h2:((eat s.entries m).state==2)
  · exact h
  · exact h.one hg hm (by simpa using h2)
theorem Vals.run (sh:Int) : ∀ (l:List Nat) {s:GNode},Vals sh s→GoodN s→(∀ m∈l,m<32)→Vals sh (runZ sh s l)
  | [],_,h,_,_=>h
  | m::t,_,h,hg,hl=>Vals.run sh t (h.step hg (hl m List.mem_cons_self)) (hg.step (hl m List.mem_cons_self) sh) fun x hx=>hl x (List.mem_cons_of_mem _ hx)
theorem Vals.turn {sh:Int} {s:GNode} (h:Vals sh s) (hg:GoodN s) {n:Nat} (hn:n<32) (g:GGraph):Vals sh (turnZ g sh s n):=by
  unfold turnZ
  cases ((eat s.entries n).state==2)
  · exact h
  · exact Vals.run sh _ h hg (ordL_lt hn)
theorem Vals.turns (g:GGraph) (sh:Int) : ∀ (l:List Nat) {s:GNode},Vals sh s→GoodN s→(∀ m∈l,m<32)→Vals sh (l.foldl (turnZ g sh) s)
  | [],_,h,_,_=>h
  | m::t,_,h,hg,hl=>Vals.turns g sh t (h.turn hg (hl m List.mem_cons_self) g) (hg.turn (hl m List.mem_cons_self) g sh) fun x hx=>hl x (List.mem_cons_of_mem _ hx)
theorem Vals.exec {sh:Int} {s:GNode} (h:Vals sh s) (hg:GoodN s):Vals sh (execZ s sh):=Vals.turns _ sh _ h hg fun m hm=>List.mem_range.1 hm
theorem Vals.take {s:GNode} {who:Int} (h:Vals (ofZ who) s) {f:GFrame}:Vals (ofZ who) (takeN s who f).1:=by
  by_cases h0:(takeN s who f).2.2=0
  · obtain ⟨hs,hw,hn,hz,hk⟩:=takeN_ok h0
    obtain ⟨_,_,hf⟩:=frameZ_in hz
    have hid:f.id.toNat<32:=by omega
    have hin : ∀ m∈s.order,(eat s.entries f.id.toNat).state≠3→f.id.toNat≠m.toNat:=fun m hm h3 e=>by
      have:=hs.inr m hm
      exact h3 ((hs.done hid).2 (by rw [e,Int.toNat_of_nonneg this.1];exact hm))
    rw [takeN_of hs hw hn hz]
    rcases hk with ⟨h1,ht⟩ | h3
    · rw [takeK_ask h1 ht]
      show Vals (ofZ who) (askN s f (ofZ who))
      unfold askN
      cases hst:((eat s.entries f.id.toNat).state==0)
      · exact h
      · have hst:(eat s.entries f.id.toNat).state=0:=by simpa using hst
        refine h.of rfl rfl fun m hm => ?_
        show eat (s.entries.setIfInBounds _ _) m.toNat=_
        rw [eat_setI hid,if_neg (hin m hm (by omega))]
    · rw [takeK_commit h3]
      show Vals (ofZ who) (commitN s f (ofZ who))
      unfold commitN
      by_cases h2:(eat s.entries f.id.toNat).state<2
      · rw [bif_t (dec_t h2)]
        refine Vals.exec (h.of rfl rfl fun m hm => ?_) (hs.comm hz h3 h2 _)
        show eat (s.entries.setIfInBounds _ _) m.toNat=_
        rw [eat_setI hid,if_neg (hin m hm (by omega))]
      · rw [bif_f (dec_f h2)];exact h
  · rw [(takeN_no h0).1];exact h
def keyL (x:Int) (f:Int→List GOp):List Int→Int→Int
  | [],v=>v
  | n::t,v=>keyL x f t (keyrun x (f n) v)
theorem runF_key {sh x:Int} (h0:0≤x) (h8:x<8) (hs:shardZ x=sh) {E:Vector GEntry 32} : ∀ (l:List Int) (v:Vector Int 8),(∀ n∈l,KeyOk (eat E n.toNat).ops)→vat (runF sh E l v) x.toNat=keyL x (fun n=>(eat E n.toNat).ops) l (vat v x.toNat)
  | [],_,_=>rfl
  | n::t,v,h=>by
    rw [runF,runF_key h0 h8 hs t _ fun m hm=>h m (List.mem_cons_of_mem _ hm),doOps_val h0 h8 hs _ _ _ _ _ (h n List.mem_cons_self)]
    rfl
theorem vat_zero (k:Nat):vat (Zr.zd:Vector Int 8) k=0:=by
  show vat (Vector.replicate 8 0) k=0
  unfold vat
  by_cases hk:k<8<;>simp [hk]
theorem Vals.key {sh:Int} {s:GNode} (h:Vals sh s) (hg:GoodN s) {A B:List Int} {n:Nat} (hn:n<32) (ho:s.order=A++(n:Int)::B) {m i:Nat} {v:Int} (hm:(eat s.entries n).at_[m]? = some ((i:Nat):Int)) (hv:(eat s.entries n).values[m]? = some v) :
    ∃ o,(eat s.entries n).ops[i]? = some o∧shardZ o.key=sh∧v=keyrun o.key ((eat s.entries n).ops.take (i+1)) (keyL o.key (fun k=>(eat s.entries k.toNat).ops) A 0):=by
  have hkey : ∀ k∈s.order,KeyOk (eat s.entries k.toNat).ops:=fun k hk=>by
    have hr:=hg.inr k hk
    have h3:=(hg.done (k:=k.toNat) (by omega)).2 (by rw [Int.toNat_of_nonneg hr.1];exact hk)
    exact KeyOk.of (hg.body (by omega) (by omega)).ops
  have hin:(n:Int)∈s.order:=by rw [ho];exact List.mem_append_right _ List.mem_cons_self
  have ht:=h.told A n B ho
  have hkn:=hkey _ hin
  rw [Int.toNat_natCast] at ht hkn
  obtain ⟨L,R,e1,e2,e3⟩:=doOps_told (sh:=sh) (eat s.entries n).ops 0 (runF sh s.entries A Zr.zd) [] [] hkn
  have h1:(eat s.entries n).at_=L:=(congrArg Prod.fst ht).trans e1
  have h2:(eat s.entries n).values=R:=(congrArg Prod.snd ht).trans e2
  rw [h1] at hm
  rw [h2] at hv
  obtain ⟨p,o,a1,a2,a3,a4⟩:=e3 m _ hm
  have hp:p=i:=by omega
  rw [hp] at a2 a4
  have hko:=hkn o (List.mem_of_getElem? a2)
  refine ⟨o,a2,a3,?_⟩
  rw [a4] at hv
  rw [← Option.some.inj hv,runF_key hko.1 hko.2 a3 A _ (fun k hk=>hkey k (by rw [ho];exact List.mem_append_left _ hk)),vat_zero]
end Go.Proofs.Yteilffoclpgijaa
namespace Go.Proofs.Yteilffoclpgijaa
open Go.RowKit
open Rep (rep)
theorem PInv.nodeP {c:GCluster} {net:List ByteArray} {b k:Nat} (h:PInv c net b) (hk:k<6):NodeP c k (vget c.nodes k):=by
  cases hd:vget c.down k
  · rw [(h.up k hk hd).1];exact h.node k hk
  · rw [h.inv.down k hk hd];exact zero_nodeP _ _
theorem cnt3_two {v w:Vector Bool 6} {k:Nat} (h1:2≤cnt3 v k) (h2:2≤cnt3 w k) : ∃ j,j<3∧hasAt v (k+j)=true∧hasAt w (k+j)=true:=by
  unfold cnt3 at h1 h2
  have e0:hasAt v k=hasAt v (k+0):=rfl
  have e1:hasAt w k=hasAt w (k+0):=rfl
  rw [e0] at h1
  rw [e1] at h2
  by_cases a0:hasAt v (k+0)=true∧hasAt w (k+0)=true
  · exact ⟨0,by omega,a0⟩
  by_cases a1:hasAt v (k+1)=true∧hasAt w (k+1)=true
  · exact ⟨1,by omega,a1⟩
  by_cases a2:hasAt v (k+2)=true∧hasAt w (k+2)=true
  · exact ⟨2,by omega,a2⟩
  exfalso
  revert h1 h2 a0 a1 a2
  cases hasAt v (k+0)<;>cases hasAt v (k+1)<;>cases hasAt v (k+2)<;>cases hasAt w (k+0)<;>cases hasAt w (k+1)<;>cases hasAt w (k+2)<;>decide
theorem PInv.meet {c:GCluster} {net:List ByteArray} {b:Nat} (h:PInv c net b) {i j:Nat} (hi:i<32) (hj:j<32) (hij:i≠j) (hbi:(vget c.cases i).begun=true) (hbj:(vget c.cases j).begun=true) (hfi:(vget c.cases i).fixed=true) (hfj:(vget c.cases j).fixed=true) {s:Nat} (hs:s<2)
    (hc:conflictZ (vget c.cases i).ops (vget c.cases j).ops (s:Int)=true) : ∃ k:Nat,k<6∧ofZ k=(s:Int)∧hasAt (vget c.cases i).told k=true∧hasAt (vget c.cases j).told k=true∧(((j:Nat):Int)∈(eat (dur c k).entries i).first∨((i:Nat):Int)∈(eat (dur c k).entries j).first):=by
  have hpi:=h.cas i hi hbi
  have hpj:=h.cas j hj hbj
  obtain ⟨t1,t2⟩:=conflict_touches _ _ _ hc
  have e1:=hpi.fix hfi
  have e2:=hpj.fix hfj
  unfold enoughC at e1 e2
  have hcnt:2≤cnt3 (vget c.cases i).told (3*s)∧2≤cnt3 (vget c.cases j).told (3*s):=by
    have:s=0∨s=1:=by omega
    rcases this with rfl | rfl
    · have t1:touchesZ (vget c.cases i).ops 0=true:=t1
      have t2:touchesZ (vget c.cases j).ops 0=true:=t2
      rw [t1] at e1
      rw [t2] at e2
      simp only [Bool.not_true,Bool.false_or,Bool.and_eq_true,decide_eq_true_eq] at e1 e2
      exact ⟨e1.1,e2.1⟩
    · have t1:touchesZ (vget c.cases i).ops 1=true:=t1
      have t2:touchesZ (vget c.cases j).ops 1=true:=t2
      rw [t1] at e1
      rw [t2] at e2
      simp only [Bool.not_true,Bool.false_or,Bool.and_eq_true,decide_eq_true_eq] at e1 e2
      exact ⟨e1.2,e2.2⟩
  obtain ⟨d,hd,k1,k2⟩:=cnt3_two hcnt.1 hcnt.2
  have hk6:3*s+d<6:=by omega
  have hof:ofZ ((3*s+d:Nat):Int)=(s:Int):=by
    unfold ofZ
    split<;>omega
  obtain ⟨u1,_⟩:=hpi.told _ hk6 k1
  obtain ⟨u2,_⟩:=hpj.told _ hk6 k2
  have hn:=h.node _ hk6
  refine ⟨3*s+d,hk6,hof,k1,k2,hn.way i j hi hj hij u1 u2 ?_⟩
  rw [hof,(hn.beg i hi u1).2,(hn.beg j hj u2).2]
  exact hc
theorem topWay_eq {fu:Nat} (hfu:3≤fu) {x y:GCase}:topWayD fu x y=some (conflictZ x.ops y.ops 0||conflictZ x.ops y.ops 1):=by
  obtain ⟨n,rfl⟩ : ∃ n,fu=n+3:=⟨fu-3,by omega⟩
  have w1:IntKind.wrap .i64 (0+1)=1:=by rw [wr64 (by omega) (by omega)];rfl
  have w2:IntKind.wrap .i64 (1+1)=2:=by rw [wr64 (by omega) (by omega)];rfl
  unfold topWayD
  rw [topWay_l1,bif_t (by rfl),some_bind]
  cases conflictZ x.ops y.ops 0
  · rw [cond_false,w1,topWay_l1,bif_t (by rfl),some_bind]
    cases conflictZ x.ops y.ops 1
    · rw [cond_false,w2,topWay_l1,bif_f (by rfl)]
      rfl
    · rfl
  · rfl
theorem goodC_fixed {c:GCase} (h:goodC c=true) (hf:c.fixed=true):c.begun=true:=by
  unfold goodC at h
  cases hb:c.begun
  · rw [hb,cond_false,hf] at h
    cases h
  · rfl
theorem PInv.ahead {c:GCluster} {net:List ByteArray} {b:Nat} (h:PInv c net b) {i j:Nat} (hi:i<32) (hj:j<32) (hij:i≠j) (hfi:(vget c.cases i).fixed=true) (hfj:(vget c.cases j).fixed=true) (hc:(conflictZ (vget c.cases i).ops (vget c.cases j).ops 0||conflictZ (vget c.cases i).ops (vget c.cases j).ops 1)=true) :
    ((j:Nat):Int)∈(vget c.cases i).deps∨((i:Nat):Int)∈(vget c.cases j).deps:=by
  have hbi:=goodC_fixed (h.inv.cas i hi) hfi
  have hbj:=goodC_fixed (h.inv.cas j hj) hfj
  have : ∃ s:Nat,s<2∧conflictZ (vget c.cases i).ops (vget c.cases j).ops (s:Int)=true:=by
    rw [Bool.or_eq_true] at hc
    rcases hc with hc | hc
    · exact ⟨0,by omega,hc⟩
    · exact ⟨1,by omega,hc⟩
  obtain ⟨s,hs,hc⟩:=this
  obtain ⟨k,hk,_,k1,k2,hm⟩:=h.meet hi hj hij hbi hbj hfi hfj hs hc
  rcases hm with hm | hm
  · exact .inl (((h.cas i hi hbi).told k hk k1).2 _ hm)
  · exact .inr (((h.cas j hj hbj).told k hk k2).2 _ hm)
end Go.Proofs.Yteilffoclpgijaa
namespace Go.Proofs.Yteilffoclpgijaa
open Go.RowKit
open Rep (rep)
def caseG (c:GCluster):GGraph:={ known:=Vector.ofFn fun k:Fin 32=>(vget c.cases k.val).fixed,deps:=Vector.ofFn fun k:Fin 32=>(vget c.cases k.val).deps }
theorem bat_caseG {c:GCluster} {k:Nat} (hk:k<32):bat (caseG c).known k=(vget c.cases k).fixed:=by simp [caseG,bat,hk]
theorem depsAt_caseG {c:GCluster} {k:Nat} (hk:k<32):depsAt (caseG c) k=(vget c.cases k).deps:=by simp [depsAt,caseG,hk]
structure Ord (P:Nat→Nat→Bool) (l:List Int):Prop where
  nodup:l.Nodup
  inr : ∀ m∈l,0≤m∧m<32
  clo : ∀ n:Nat,(n:Int)∈l → ∀ d,P n d=true→(d:Int)∈l
  pw:l.Pairwise (fun a b=>Rb P a.toNat b.toNat)
theorem Rb.two {P:Nat→Nat→Bool} {a b:Nat} (h:Rb P a b) (h':Rb P b a) (hc:P a b=true∨P b a=true):False:=by
  rcases hc with hc | hc
  · obtain ⟨h1,h2⟩:=h hc
    have:=(h' h1).2
    omega
  · obtain ⟨h1,h2⟩:=h' hc
    have:=(h h1).2
    omega
theorem Ord.split {P:Nat→Nat→Bool} {l A B:List Int} {i:Int} (h:Ord P l) (hl:l=A++i::B):(∀ m∈A,Rb P m.toNat i.toNat)∧(∀ m∈B,Rb P i.toNat m.toNat)∧i∉A∧i∉B∧A.Nodup∧A.Pairwise (fun a b=>Rb P a.toNat b.toNat):=by
  have hp:=h.pw
  have hn:=h.nodup
  rw [hl] at hp hn
  obtain ⟨p1,p2,p3⟩:=List.pairwise_append.1 hp
  obtain ⟨n1,n2,n3⟩:=List.nodup_append.1 hn
  refine ⟨fun m hm=>p3 m hm i List.mem_cons_self,(List.pairwise_cons.1 p2).1,fun hi => ?_,(List.nodup_cons.1 n2).1,n1,p1⟩
  exact n3 i hi i List.mem_cons_self rfl
theorem Ord.same {P:Nat→Nat→Bool} {l l' A B A' B':List Int} {i:Int} (h:Ord P l) (h':Ord P l') (hl:l=A++i::B) (hl':l'=A'++i::B') {m:Int} (hm:m∈A) (hc:P i.toNat m.toNat=true∨P m.toNat i.toNat=true):m∈A':=by
  obtain ⟨s1,_,s3,_⟩:=h.split hl
  obtain ⟨_,t2,_⟩:=h'.split hl'
  have hr:=s1 m hm
  have him:P i.toNat m.toNat=true:=by
    rcases hc with hc | hc
    · exact hc
    · exact (hr hc).1
  have hi:i∈l':=by rw [hl'];exact List.mem_append_right _ List.mem_cons_self
  have hm0:=h.inr m (by rw [hl];exact List.mem_append_left _ hm)
  have hi0:=h'.inr i hi
  have hin:m∈l':=by
    have:=h'.clo i.toNat (by rw [Int.toNat_of_nonneg hi0.1];exact hi) m.toNat him
    rwa [Int.toNat_of_nonneg hm0.1] at this
  rw [hl'] at hin
  rcases List.mem_append.1 hin with hin | hin
  · exact hin
  · rcases List.mem_cons.1 hin with e | hin
    · subst e;exact absurd hm s3
    · exact (hr.two (t2 m hin) hc.symm).elim
theorem node_path {c:GCluster} {k:Nat} {s:GNode} (hg:GoodN s) (hp:NodeP c k s) {n d:Nat} (hn:(n:Int)∈s.order):pathB (caseG c) n d=pathB (graphZ s) n d:=by
  have hS : ∀ a b,((a:Nat):Int)∈s.order→Edge (graphZ s) a b→((b:Nat):Int)∈s.order:=fun a b ha e=>hp.sorted.clo a ha b (pathB_iff.2 (.one e))
  have hE : ∀ a b,((a:Nat):Int)∈s.order→(Edge (graphZ s) a b↔Edge (caseG c) a b):=fun a b ha=>by
    have h32:a<32:=by have:=hg.inr a ha;omega
    have h3:=(hg.done h32).2 ha
    obtain ⟨f1,f2⟩:=hp.fix a h32 (by omega)
    unfold Edge
    rw [bat_graphZ h32,bat_caseG h32,depsAt_graphZ h32,depsAt_caseG h32,f1,f2,dec_t (by omega)]
  rw [Bool.eq_iff_iff,pathB_iff,pathB_iff]
  exact (path_eq (S:=fun k=>((k:Nat):Int)∈s.order) hS hE hn).symm
theorem NodeP.ord {c:GCluster} {k:Nat} {s:GNode} (hg:GoodN s) (hp:NodeP c k s):Ord (pathB (caseG c)) s.order:=by
  refine ⟨hg.nodup,hg.inr,fun n hn d hd => ?_,?_⟩
  · rw [node_path hg hp hn] at hd
    exact hp.sorted.clo n hn d hd
  · refine hp.sorted.ord.imp_of_mem fun {a b} ha hb hab => ?_
    have ha0:=(hg.inr a ha).1
    have hb0:=(hg.inr b hb).1
    unfold Rb at *
    rw [node_path hg hp (by rw [Int.toNat_of_nonneg ha0];exact ha),node_path hg hp (by rw [Int.toNat_of_nonneg hb0];exact hb)]
    exact hab
theorem NodeP.order_fix {c:GCluster} {k:Nat} {s:GNode} (hg:GoodN s) (hp:NodeP c k s) {n:Nat} (hn:(n:Int)∈s.order):n<32∧(vget c.cases n).fixed=true∧(vget c.cases n).begun=true∧(eat s.entries n).ops=(vget c.cases n).ops:=by
  have h32:n<32:=by have:=hg.inr n hn;omega
  have h3:=(hg.done h32).2 hn
  obtain ⟨b1,b2⟩:=hp.beg n h32 (by omega)
  exact ⟨h32,(hp.fix n h32 (by omega)).1,b1,b2⟩
def addL (out r:List Int):List Int:=out++r.filter fun m => !hasZ out m
theorem mem_addL {out r:List Int} {x:Int}:x∈addL out r↔x∈out∨x∈r:=by
  unfold addL
  rw [List.mem_append,List.mem_filter]
  constructor
  · rintro (h | h)
    · exact .inl h
    · exact .inr h.1
  · rintro (h | h)
    · exact .inl h
    · by_cases ho:x∈out
      · exact .inl ho
      · refine .inr ⟨h,?_⟩
        cases e:hasZ out x
        · rfl
        · exact absurd (hasZ_iff.1 e) ho
theorem Ord.add {P:Nat→Nat→Bool} {a b:List Int} (ha:Ord P a) (hb:Ord P b):Ord P (addL a b):=by
  refine ⟨?_,fun m hm => ?_,fun n hn d hd => ?_,?_⟩
  · refine List.nodup_append.2 ⟨ha.nodup,hb.nodup.filter _,fun x hx y hy e => ?_⟩
    subst e
    have:=(List.mem_filter.1 hy).2
    rw [hasZ_iff.2 hx] at this
    cases this
  · rcases mem_addL.1 hm with h | h
    · exact ha.inr m h
    · exact hb.inr m h
  · rw [mem_addL] at hn ⊢
    rcases hn with h | h
    · exact .inl (ha.clo n h d hd)
    · exact .inr (hb.clo n h d hd)
  · refine List.pairwise_append.2 ⟨ha.pw,hb.pw.filter _,fun x hx y hy hp => ?_⟩
    obtain ⟨y1,y2⟩:=List.mem_filter.1 hy
    have hx0:=Int.toNat_of_nonneg (ha.inr x hx).1
    have hy0:=Int.toNat_of_nonneg (hb.inr y y1).1
    have:=ha.clo x.toNat (by rw [hx0];exact hx) y.toNat hp
    rw [hy0] at this
    rw [hasZ_iff.2 this] at y2
    cases y2
end Go.Proofs.Yteilffoclpgijaa
namespace Go.Proofs.Yteilffoclpgijaa
open Go.RowKit
open Rep (rep)
theorem Ord.len {P:Nat→Nat→Bool} {l:List Int} (h:Ord P l):l.length≤32:=by
  have h1:(l.map Int.toNat).Nodup:=by
    refine List.Pairwise.map (R:=fun a b:Int=>a≠b∧0≤a∧0≤b) Int.toNat (fun a b hab e=>hab.1 (by omega)) ?_
    exact h.nodup.imp_of_mem fun {a b} ha hb hab=>⟨hab,(h.inr a ha).1,(h.inr b hb).1⟩
  have:=nodup_len 32 (l.map Int.toNat) h1 fun x hx=>by
    obtain ⟨a,ha,rfl⟩:=List.mem_map.1 hx
    have:=h.inr a ha
    omega
  simpa using this
end Go.Proofs.Yteilffoclpgijaa
namespace Go.Proofs.Yteilffoclpgijaa
open Go.RowKit
open Rep (rep)
theorem topPlaces_l1_eq {s:GNode} (hg:GoodN s) : ∀ (n m k:Nat) (v:Vector Int 32),s.order.length=k+m→m<n→AtOf s k v → ∃ p,topPlaces_l1 s n v k=some p∧AtOf s s.order.length p
  | 0,m,k,_,_,h,_=>absurd h (by omega)
  | n+1,0,k,v,hk,_,hv=>⟨v,by rw [topPlaces_l1,bif_f (dec_f (by omega)),some_bind],by rw [hk];exact hv⟩
  | n+1,m+1,k,v,hk,hn,hv=>by
    have hlt:k<s.order.length:=by omega
    have hx:s.order[k]? = some s.order[k]:=List.getElem?_eq_getElem hlt
    have hr:=hg.inr _ (List.getElem_mem hlt)
    have hlen:=hg.len
    obtain ⟨x,hxx⟩ : ∃ x:Nat,s.order[k]=(x:Int):=⟨s.order[k].toNat,by omega⟩
    rw [hxx] at hx hr
    have hx32:x<32:=by omega
    obtain ⟨p,e,hp⟩:=topPlaces_l1_eq hg n m (k+1) (v.set x ((k+1:Nat):Int)) (by omega) (by omega) fun j hj=>by
      rw [iat_set hx32]
      by_cases e:x=j
      · subst e
        rw [if_pos rfl]
        exact .inr ⟨k,by omega,hx,by omega⟩
      · rw [if_neg e]
        rcases hv j hj with ⟨e1,e2⟩ | ⟨i,hi,e1,e2⟩
        · refine .inl ⟨e1,?_⟩
          rw [List.take_add_one,hx]
          intro hm
          rcases List.mem_append.1 hm with hm | hm
          · exact e2 hm
          · have:=List.mem_singleton.1 (show ((j:Nat):Int)∈[((x:Nat):Int)] from hm)
            omega
        · exact .inr ⟨i,by omega,e1,e2⟩
    refine ⟨p,?_,hp⟩
    rw [topPlaces_l1,bif_t (dec_t (by omega)),idx_nat,hx,some_bind,bif_t (dec_t (by omega)),dec_t (by omega),topPlaces_j2,cond_true,inR_ok (by omega) (by omega),some_bind,idxI hx32,some_bind,wrs k (by omega),setV_ok hx32,some_bind,some_bind,topPlaces_j1,wrs k (by omega)]
    exact e
theorem topPlacesD_eq {fu:Nat} {s:GNode} (hg:GoodN s) (hfu:40≤fu) : ∃ p,topPlacesD fu s=some p∧AtOf s s.order.length p :=
  topPlaces_l1_eq hg fu s.order.length 0 _ (by omega) (by have:=hg.len;omega) fun m _ => .inl ⟨iat_zero m,by simp⟩
theorem case_path {c d:GCluster} {net:List ByteArray} {z:Nat} (h:PInv c net z) (hg:Grow c d) {n:Nat} (hf : ∀ k,pathB (caseG c) n k=true→(vget c.cases k).fixed=true) (hn:n<32) (k:Nat):pathB (caseG d) n k=pathB (caseG c) n k:=by
  have hE : ∀ a b,pathB (caseG c) n a=true→(Edge (caseG c) a b↔Edge (caseG d) a b):=fun a b ha=>by
    have h32:=(pathB_pre (caseG c)).lt n a hn ha
    have hfx:=hf a ha
    have hb:=goodC_fixed (h.inv.cas a h32) hfx
    obtain ⟨_,_,g3⟩:=hg.cas a h32 hb
    obtain ⟨g4,g5⟩:=g3 hfx
    unfold Edge
    rw [bat_caseG h32,bat_caseG h32,depsAt_caseG h32,depsAt_caseG h32,hfx,g4,g5]
  have hS : ∀ a b,pathB (caseG c) n a=true→Edge (caseG c) a b→pathB (caseG c) n b=true:=fun a b ha e=>pathB_iff.2 (.tail (pathB_iff.1 ha) e)
  rw [Bool.eq_iff_iff,pathB_iff,pathB_iff]
  exact (path_eq (S:=fun k=>pathB (caseG c) n k=true) hS hE ((pathB_pre (caseG c)).refl n hn)).symm
end Go.Proofs.Yteilffoclpgijaa
namespace Go.Proofs.Yteilffoclpgijaa
open Go.RowKit
open Rep (rep)
structure Plc (c:GCluster) (p:Vector Int 32) (o:List Int):Prop where
  ord:Ord (pathB (caseG c)) o
  fix : ∀ n:Nat,(n:Int)∈o→n<32∧(vget c.cases n).fixed=true
  at_ : ∀ m,m<32→(iat p m=0∧((m:Nat):Int)∉o) ∨ ∃ i:Nat,o[i]? = some ((m:Nat):Int)∧iat p m=(i:Int)+1
theorem Plc.of {c:GCluster} {k:Nat} {s:GNode} (hg:GoodN s) (hp:NodeP c k s) {p:Vector Int 32} (h:AtOf s s.order.length p):Plc c p s.order:=by
  refine ⟨hp.ord hg,fun n hn=>⟨(hp.order_fix hg hn).1,(hp.order_fix hg hn).2.1⟩,fun m hm => ?_⟩
  rcases h m hm with ⟨e1,e2⟩ | ⟨i,_,e1,e2⟩
  · rw [List.take_of_length_le (Nat.le_refl _)] at e2
    exact .inl ⟨e1,e2⟩
  · exact .inr ⟨i,e1,e2⟩
theorem Plc.grow {c d:GCluster} {net:List ByteArray} {z:Nat} (h:PInv c net z) (hg:Grow c d) {p:Vector Int 32} {o:List Int} (hp:Plc c p o):Plc d p o:=by
  have hpath : ∀ n:Nat,(n:Int)∈o → ∀ k,pathB (caseG d) n k=pathB (caseG c) n k:=fun n hn k =>
    case_path h hg (fun k hk=>(hp.fix k (hp.ord.clo n hn k hk)).2) (hp.fix n hn).1 k
  refine ⟨⟨hp.ord.nodup,hp.ord.inr,fun n hn k hk => ?_,?_⟩,fun n hn => ?_,hp.at_⟩
  · rw [hpath n hn] at hk
    exact hp.ord.clo n hn k hk
  · refine hp.ord.pw.imp_of_mem fun {a b} ha hb hab => ?_
    have ha0:=(hp.ord.inr a ha).1
    have hb0:=(hp.ord.inr b hb).1
    unfold Rb at *
    rw [hpath a.toNat (by rw [Int.toNat_of_nonneg ha0];exact ha),hpath b.toNat (by rw [Int.toNat_of_nonneg hb0];exact hb)]
    exact hab
  · obtain ⟨h1,h2⟩:=hp.fix n hn
    exact ⟨h1,((hg.cas n h1 (goodC_fixed (h.inv.cas n h1) h2)).2.2 h2).1⟩
theorem Plc.ahead {c:GCluster} {p:Vector Int 32} {o:List Int} (hp:Plc c p o) {a b:Nat} (ha:a<32) (hb:b<32) (ha0:iat p a>0) (hb0:iat p b>0) (hab:iat p a<iat p b):(vget c.cases a).fixed=true∧(vget c.cases b).fixed=true∧Rb (pathB (caseG c)) a b:=by
  rcases hp.at_ a ha with ⟨e,_⟩ | ⟨i,i1,i2⟩
  · omega
  rcases hp.at_ b hb with ⟨e,_⟩ | ⟨j,j1,j2⟩
  · omega
  refine ⟨(hp.fix a (List.mem_of_getElem? i1)).2,(hp.fix b (List.mem_of_getElem? j1)).2,?_⟩
  obtain ⟨u1,u2⟩:=List.getElem?_eq_some_iff.1 i1
  obtain ⟨w1,w2⟩:=List.getElem?_eq_some_iff.1 j1
  have:=List.pairwise_iff_getElem.1 hp.ord.pw i j u1 w1 (by omega)
  rw [u2,w2,Int.toNat_natCast,Int.toNat_natCast] at this
  exact this
theorem topSameF_l1_eq {fu:Nat} (hfu:1100≤fu) {c:GCluster} {net:List ByteArray} {z:Nat} (h:PInv c net z) : ∀ (n m k:Nat) (had:Vector Int 6) (l:List (Vector Int 32)),k+m=6→m<n→l.length+m≤1000→(∀ p∈l,∃ o,Plc c p o) → ∃ had' l',topSameF_l1 fu n c had l net k=some (true,c,net,had',l')∧l'.length≤l.length+m ∧ ∀ p∈l',∃ o,Plc c p o
  | 0,m,k,_,_,_,hh,_,_=>absurd hh (by omega)
  | n+1,0,k,had,l,hk,_,_,hl=>⟨had,l,by rw [topSameF_l1,bif_f (dec_f (by omega))];rfl,Nat.le_refl _,hl⟩
  | n+1,m+1,k,had,l,hk,hn,hlen,hl=>by
    have hk6:k<6:=by omega
    have hb:Rep.bytes (Vector Int 32)=256:=rfl
    obtain ⟨p,e,hp⟩:=topPlacesD_eq (fu:=fu) (h.inv.node k hk6) (by omega)
    have hpl:=Plc.of (h.inv.node k hk6) (h.nodeP hk6) hp
    have hx:idxV had (k:Int)=some (had[k]'hk6):=idxV_ok hk6
    rw [topSameF_l1,bif_t (dec_t (by omega)),clNodeD_eq (by omega) h.inv (by omega) (by omega),some_bind,some_bind,inR_ok (by omega) (by omega),some_bind,hx,some_bind,Int.toNat_natCast]
    simp only [topSameF_j4,topSameF_j3,inR_ok (show (0:Int)≤(k:Int) by omega) (show (k:Int)<6 by omega),some_bind,hx,setV_ok hk6,wrs k (by omega)]
    cases (((vget c.nodes k).order.length:Int) != had[k]'hk6)
    · rw [cond_false]
      obtain ⟨h',l',e1,e2,e3⟩:=topSameF_l1_eq hfu h n m (k+1) (had.set k ((vget c.nodes k).order.length:Int)) l (by omega) (by omega) (by omega) hl
      exact ⟨h',l',e1,by omega,e3⟩
    · rw [cond_true,e,some_bind,app_ok (by rw [hb];simp only [List.length_singleton];omega),some_bind]
      obtain ⟨h',l',e1,e2,e3⟩:=topSameF_l1_eq hfu h n m (k+1) (had.set k ((vget c.nodes k).order.length:Int)) (l++[p]) (by omega) (by omega) (by simp;omega) fun q hq=>by
        rcases List.mem_append.1 hq with hq | hq
        · exact hl q hq
        · rw [List.mem_singleton.1 hq];exact ⟨_,hpl⟩
      refine ⟨h',l',e1,?_,e3⟩
      simp only [List.length_append,List.length_cons,List.length_nil] at e2
      omega
theorem topSameFD_eq {fu:Nat} (hfu:1100≤fu) {c:GCluster} {net:List ByteArray} {z:Nat} (h:PInv c net z) {a:GAct} {r:GReply} {had:Vector Int 6} {l:List (Vector Int 32)} (hlen:l.length≤900) (hl : ∀ p∈l,∃ o,Plc c p o) :
    ∃ had' l',topSameFD fu c net a r had l=some (true,c,net,had',l')∧l'.length≤l.length+6 ∧ ∀ p∈l',∃ o,Plc c p o:=by
  have h1 : ∃ had' l',topSameF_j2 fu c net had l true=some (true,c,net,had',l')∧l'.length≤l.length+6 ∧ ∀ p∈l',∃ o,Plc c p o :=
    topSameF_l1_eq hfu h fu 6 0 had l (by omega) (by omega) (by omega) hl
  unfold topSameFD
  cases (a.kind==2)
  · cases (a.kind==3)
    · exact ⟨had,l,rfl,by omega,hl⟩
    · exact h1
  · exact h1
theorem playS_l1_eq {fu:Nat} (hfu:70000≤fu) {l:List GAct} (hl:l.length≤17592186043904) : ∀ (n m k:Nat) (c:GCluster) (net:List ByteArray) (had:Vector Int 6) (v:List (Vector Int 32)),k+m=150→m<n→PInv c net (102*k)→v.length≤6*k→(∀ p∈v,∃ o,Plc c p o) →
    ∃ z,playS_l1 fu l n c had v net k=some z∧z.2.1=true∧PInv z.1 z.2.2.2.2 15300∧z.2.2.2.1.length≤900 ∧ ∀ p∈z.2.2.2.1,∃ o,Plc z.1 p o:=by
  intro n
  induction n with
  | zero=>intro m k c net had v _ h;omega
  | succ n ih =>
    intro m k c net had v hk hn h hlen hv
    rw [playS_l1]
    by_cases h1:(k:Int)<(l.length:Int)
    · rw [bif_t (dec_t h1)]
      by_cases h2:(k:Int)<150
      · have hlt:k<l.length:=by omega
        obtain ⟨m',rfl⟩ : ∃ m',m=m'+1:=⟨m-1,by omega⟩
        obtain ⟨hg,hp⟩:=h.actG (by omega) (a:=l[k])
        have hp:PInv (actZ c net l[k]).2.1 (actZ c net l[k]).2.2 (102*(k+1)):=hp.mono (by omega)
        obtain ⟨had',v',e1,e2,e3⟩:=topSameFD_eq (fu:=fu) (by omega) hp (a:=l[k]) (r:=(actZ c net l[k]).1) (had:=had) (l:=v) (by omega) fun p hp=>by
          obtain ⟨o,ho⟩:=hv p hp
          exact ⟨o,ho.grow h hg⟩
        rw [dec_t h2,playS_j2,cond_true,playS_j1,idx_nat,List.getElem?_eq_getElem hlt,some_bind,clDoD_eq hfu h.inv,some_bind,some_bind,some_bind,e1,some_bind,bif_f (c := !true) rfl,wrsB k (by omega)]
        exact ih m' (k+1) _ _ had' v' (by omega) (by omega) hp (by omega) e3
      · rw [dec_f h2,playS_j2,cond_false]
        exact ⟨_,rfl,rfl,h.mono (by omega),by dsimp only;omega,hv⟩
    · rw [bif_f (dec_f h1),playS_j2,cond_false]
      exact ⟨_,rfl,rfl,h.mono (by omega),by dsimp only;omega,hv⟩
def Fst (l:List (Vector Int 32)) (a b:Nat):Prop := ∃ p∈l,iat p a>0∧iat p b>0∧iat p a<iat p b
theorem PInv.one_way {c:GCluster} {net:List ByteArray} {z:Nat} (h:PInv c net z) {l:List (Vector Int 32)} (hl : ∀ p∈l,∃ o,Plc c p o) {a b:Nat} (ha:a<32) (hb:b<32) (hab:a≠b) (hc:(conflictZ (vget c.cases a).ops (vget c.cases b).ops 0||conflictZ (vget c.cases a).ops (vget c.cases b).ops 1)=true) (h1:Fst l a b) (h2:Fst l b a):False:=by
  obtain ⟨p,hp,p1,p2,p3⟩:=h1
  obtain ⟨q,hq,q1,q2,q3⟩:=h2
  obtain ⟨o,ho⟩:=hl p hp
  obtain ⟨o',ho'⟩:=hl q hq
  obtain ⟨f1,f2,r1⟩:=ho.ahead ha hb p1 p2 p3
  obtain ⟨_,_,r2⟩:=ho'.ahead hb ha q1 q2 q3
  refine r1.two r2 ?_
  rcases h.ahead ha hb hab f1 f2 hc with hd | hd
  · exact .inl (pathB_iff.2 (.one ⟨ha,by rw [bat_caseG ha];exact f1,by rw [depsAt_caseG ha];exact hd,hb⟩))
  · exact .inr (pathB_iff.2 (.one ⟨hb,by rw [bat_caseG hb];exact f2,by rw [depsAt_caseG hb];exact hd,ha⟩))
theorem tsame_l3_eq {c:GCluster} {net:List ByteArray} {r:GCluster × Bool × Vector Int 6 × List (Vector Int 32) × List ByteArray} {l:List (Vector Int 32)} (hr:r.2.2.2.1=l) (hlen:l.length≤900) {a b:Nat} (ha:a<32) (hb:b<32) (hno:Fst l a b→Fst l b a→False) {rec:GCluster→List ByteArray→Int→Option Bool} :
    ∀ (n m k:Nat) (x y:Bool),l.length=k+m→m<n→(x=true→Fst l a b)→(y=true→Fst l b a)→topSame_l3 r a c net b rec n x y k=topSame_j1 b rec c net
  | 0,m,k,_,_,_,hh,_,_=>absurd hh (by omega)
  | n+1,0,k,x,y,hk,_,hx,hy=>by
    rw [topSame_l3,hr,bif_f (dec_f (by omega))]
    cases x
    · rfl
    · cases y
      · rfl
      · exact (hno (hx rfl) (hy rfl)).elim
  | n+1,m+1,k,x,y,hk,hn,hx,hy=>by
    have hlt:k<l.length:=by omega
    have hin:=List.getElem_mem hlt
    have ih:=fun x y hx hy=>tsame_l3_eq (c:=c) (net:=net) hr hlen ha hb hno (rec:=rec) n m (k+1) x y (by omega) (by omega) hx hy
    have i1:inR (a:Int) 32=some ():=inR_ok (by omega) (by omega)
    have i2:inR (b:Int) 32=some ():=inR_ok (by omega) (by omega)
    rw [topSame_l3,hr,bif_t (dec_t (by omega)),idx_nat,List.getElem?_eq_getElem hlt,some_bind,some_bind]
    generalize l[k]=p at hin
    simp only [topSame_j3,topSame_j2,i1,i2,idxI ha,idxI hb,some_bind,wrs k (by omega)]
    by_cases h1:iat p a>0
    · rw [bif_t (dec_t h1)]
      by_cases h2:iat p b>0
      · rw [bif_t (dec_t h2)]
        have hx':decide (iat p a<iat p b)=true→Fst l a b:=fun h=>⟨p,hin,h1,h2,by simpa using h⟩
        have hy':decide (iat p a>iat p b)=true→Fst l b a:=fun h=>⟨p,hin,h2,h1,by simpa using h⟩
        cases x
        · cases y
          · exact ih _ _ hx' hy'
          · exact ih _ _ hx' hy
        · cases y
          · exact ih _ _ hx hy'
          · exact ih _ _ hx hy
      · rw [bif_f (dec_f h2)]
        exact ih _ _ hx hy
    · rw [bif_f (dec_f h1),cond_false]
      exact ih _ _ hx hy
theorem tsame_l2_eq {fu:Nat} (hfu:1100≤fu) {c:GCluster} {net:List ByteArray} {z:Nat} (h:PInv c net z) {r:GCluster × Bool × Vector Int 6 × List (Vector Int 32) × List ByteArray} (hlen:r.2.2.2.1.length≤900) (hl : ∀ p∈r.2.2.2.1,∃ o,Plc c p o) {a:Nat} (ha:a<32) {rec:GCluster→List ByteArray→Int→Option Bool} :
    ∀ (n m b:Nat),b+m=a→m<n→topSame_l2 fu r a rec n c net b=rec c net (IntKind.wrap .i64 ((a:Int)+1))
  | 0,m,b,_,hh=>absurd hh (by omega)
  | n+1,0,b,hb,_=>by rw [topSame_l2,bif_f (dec_f (by omega))]
  | n+1,m+1,b,hb,hn=>by
    have hb32:b<32:=by omega
    have ih:=tsame_l2_eq hfu h hlen hl ha (rec:=rec) n m (b+1) (by omega) (by omega)
    have hnext:topSame_j1 b (topSame_l2 fu r a rec n) c net=rec c net (IntKind.wrap .i64 ((a:Int)+1)):=by
      rw [topSame_j1,wrs b (by omega)]
      exact ih
    rw [topSame_l2,bif_t (dec_t (by omega)),clCaseD_eq h.inv (by omega) (by omega),some_bind,clCaseD_eq h.inv (by omega) (by omega),some_bind,topWay_eq (by omega),some_bind,Int.toNat_natCast,Int.toNat_natCast]
    cases hw:(conflictZ (vget c.cases a).ops (vget c.cases b).ops 0||conflictZ (vget c.cases a).ops (vget c.cases b).ops 1)
    · exact hnext
    · rw [bif_f (c := !true) rfl]
      exact (tsame_l3_eq (c:=c) (net:=net) rfl hlen ha hb32 (h.one_way hl ha hb32 (by omega) hw) fu r.2.2.2.1.length 0 false false (by omega) (by omega) (fun h=>by cases h) fun h=>by cases h).trans hnext
theorem tsame_l1_eq {fu:Nat} (hfu:1100≤fu) {c:GCluster} {net:List ByteArray} {z:Nat} (h:PInv c net z) {r:GCluster × Bool × Vector Int 6 × List (Vector Int 32) × List ByteArray} (hlen:r.2.2.2.1.length≤900) (hl : ∀ p∈r.2.2.2.1,∃ o,Plc c p o) : ∀ (n m k:Nat),k+m=32→m<n→topSame_l1 fu r n c net k=some true
  | 0,m,k,_,hh=>absurd hh (by omega)
  | n+1,0,k,hk,_=>by rw [topSame_l1,bif_f (dec_f (by omega))]
  | n+1,m+1,k,hk,hn=>by
    have ih:=tsame_l1_eq hfu h hlen hl n m (k+1) (by omega) (by omega)
    rw [topSame_l1,bif_t (dec_t (by omega))]
    refine Eq.trans (tsame_l2_eq hfu h hlen hl (a:=k) (by omega) (rec:=topSame_l1 fu r n) fu k 0 (by omega) (by omega)) ?_
    rw [wrs k (by omega)]
    exact ih
theorem topSameD_eq {fu:Nat} (hfu:fu=70000) {l:List GAct} (hl:l.length≤17592186043904):topSameD fu l=some true:=by
  have ha:aliveD fu=some true:=by rw [hfu];exact alive_k
  obtain ⟨z,hz,hz1,hp,hlen,hv⟩:=playS_l1_eq (fu:=fu) (by omega) hl fu 150 0 newCl [] (Zr.zd:Vector Int 6) [] (by omega) (by omega) new_pinv (by simp) fun p hp=>absurd hp List.not_mem_nil
  unfold topSameD playSD
  rw [ha,some_bind,bif_f (c := !true) rfl,clNewD_eq,some_bind]
  have hz:playS_l1 fu l fu newCl Zr.zd (Zr.zd:List (Vector Int 32)) [] 0=some z:=hz
  rw [hz,some_bind,hz1,bif_f (c := !true) rfl]
  exact tsame_l1_eq (by omega) hp hlen hv fu 32 0 (by omega) (by omega)
end Go.Proofs.Yteilffoclpgijaa
namespace Go.Proofs.Yteilffoclpgijaa
open Go.RowKit
open Rep (rep)
theorem op3:Opn Try.prog 3 Int:=opn_int Try.underlying3 (by kernel_rfl)
theorem op65:Opn Try.prog 65 GOp:=⟨by kernel_rfl,fun H enc w fuel cs d p h hw=>by
  have hl:cs.length=3:=by obtain ⟨_,_,_,_,hl,_⟩:=DataW.trod_struct Try.underlying65 h;rw [hl];kernel_rfl
  obtain ⟨x0,h0⟩:=opn_field (α := Int) (o:=0) (k:=1) Try.underlying65 h hw 0 _ rfl rfl rfl (by kernel_rfl) op3
  obtain ⟨x1,h1⟩:=opn_field (α := Int) (o:=1) (k:=1) Try.underlying65 h hw 1 _ rfl rfl rfl (by kernel_rfl) op3
  obtain ⟨x2,h2⟩:=opn_field (α := Int) (o:=2) (k:=1) Try.underlying65 h hw 2 _ rfl rfl rfl (by kernel_rfl) op3
  exact ⟨⟨x0,x1,x2⟩,GOp.fol ⟨hl,h0,h1,h2⟩⟩⟩
theorem op27:Opn Try.prog 27 (List (GOp)):=opn_slice Try.underlying27 (by kernel_rfl) op65 (by decide) (by kernel_rfl)
theorem op43:Opn Try.prog 43 GAct:=⟨by kernel_rfl,fun H enc w fuel cs d p h hw=>by
  have hl:cs.length=4:=by obtain ⟨_,_,_,_,hl,_⟩:=DataW.trod_struct Try.underlying43 h;rw [hl];kernel_rfl
  obtain ⟨x0,h0⟩:=opn_field (α := Int) (o:=0) (k:=1) Try.underlying43 h hw 0 _ rfl rfl rfl (by kernel_rfl) op3
  obtain ⟨x1,h1⟩:=opn_field (α := Int) (o:=1) (k:=1) Try.underlying43 h hw 1 _ rfl rfl rfl (by kernel_rfl) op3
  obtain ⟨x2,h2⟩:=opn_field (α := Int) (o:=2) (k:=1) Try.underlying43 h hw 2 _ rfl rfl rfl (by kernel_rfl) op3
  obtain ⟨x3,h3⟩:=opn_field (α := List (GOp)) (o:=3) (k:=1) Try.underlying43 h hw 3 _ rfl rfl rfl (by kernel_rfl) op27
  exact ⟨⟨x0,x1,x2,x3⟩,GAct.fol ⟨hl,h0,h1,h2,h3⟩⟩⟩
theorem op22:Opn Try.prog 22 (List (GAct)):=opn_slice Try.underlying22 (by kernel_rfl) op43 (by decide) (by kernel_rfl)
end Go.Proofs.Yteilffoclpgijaa
