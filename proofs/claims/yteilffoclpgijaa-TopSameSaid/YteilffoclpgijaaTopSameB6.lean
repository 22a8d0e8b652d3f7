/- What the proof of TopSame rests on, part 6: rules of walks, what functions compute, and plain laws of it. -/
import Derived.Test.YteilffoclpgijaaTopSameB5
import Derived.ProofKit
import Derived.OpenShut
import Derived.ShutString
import Derived.ChangeOld
import Derived.SizedLaws
import Derived.Deep.Slices
namespace Go.Proofs.Yteilffoclpgijaa
open Go.RowKit
open Rep (rep)
def byL (s:ByteArray):List Int:=s.data.toList.map fun b=>(b.toNat:Int)
theorem byL_len (s:ByteArray):(byL s).length=s.size:=by
  unfold byL
  rw [List.length_map]
  rfl
theorem byL_range {s:ByteArray} {c:Int} (h:c∈byL s):0≤c∧c<256:=by
  unfold byL at h
  obtain ⟨b,_,rfl⟩:=List.mem_map.1 h
  have:=b.toNat_lt
  omega
theorem byL_idx (s:ByteArray) (k:Nat):idxS s (k:Int)=(byL s)[k]? := by
  unfold idxS byL
  rw [if_pos (Int.natCast_nonneg k),List.getElem?_map]
  have e:((k:Int)).toNat=k:=rfl
  rw [e]
  by_cases hk:k<s.size
  · have h2:k<s.data.toList.length:=hk
    rw [List.getElem?_eq_getElem h2]
    have:s[k]? = some s[k]:=getElem?_pos s k hk
    rw [this]
    rfl
  · have h2:s.data.toList.length≤k:=by have:s.data.toList.length=s.size:=rfl;omega
    rw [List.getElem?_eq_none h2]
    have:s[k]? = none:=getElem?_neg s k hk
    rw [this]
theorem byL_cut {s:ByteArray} {k:Nat} (hk:k≤s.size) : ∃ s',cutB s (some (k:Int)) none=some s'∧byL s'=(byL s).drop k:=by
  unfold cutB cutOk
  simp only [Option.getD_some,Option.getD_none]
  rw [if_pos (by omega)]
  refine ⟨_,rfl,?_⟩
  unfold byL
  rw [Go.Lib.extract_data,← List.map_drop]
  congr 1
  have e:((s.size:Int)).toNat=s.size:=rfl
  have e2:((k:Int)).toNat=k:=rfl
  simp only [e,e2]
  refine List.take_of_length_le ?_
  have:s.data.toList.length=s.size:=rfl
  rw [List.length_drop]
  omega
theorem byL_empty {s:ByteArray}:(s.toList==(⟨#[]⟩:ByteArray).toList)=(byL s).isEmpty:=by
  rw [ByteArray.toList_eq,ByteArray.toList_eq,Bool.eq_iff_iff]
  unfold byL
  simp
def sixV (a b c d e f:Int):Int:=((((a*256+b)*256+c)*256+d)*256+e)*256+f-140737488355328
def pOps:Nat→List Int→Option (List GOp × List Int)
  | 0,l=>some ([],l)
  | n+1,k::y::a::b::c::d::e::f::t=>(pOps n t).map fun p=>(⟨k,y,sixV a b c d e f⟩::p.1,p.2)
  | _+1,_=>none
def pDeps (n:Nat) (l:List Int):Option (List Int × List Int):=if n≤l.length then some (l.take n,l.drop n) else none
def pAts:Nat→List Int→Option (List Int × List Int × List Int)
  | 0,l=>some ([],[],l)
  | n+1,k::a::b::c::d::e::f::t=>(pAts n t).map fun p=>(k::p.1,sixV a b c d e f::p.2.1,p.2.2)
  | _+1,_=>none
def pTail (kd nd id:Int) (os:List GOp) (ds:List Int):List Int→Option (GFrame × List Int)
  | k::u=>(pAts k.toNat u).map fun z=>(⟨kd,nd,id,os,ds,z.1,z.2.1⟩,z.2.2)
  | []=>none
def pRest (kd nd id:Int) (os:List GOp):List Int→Option (GFrame × List Int)
  | m::r=>(pDeps m.toNat r).bind fun q=>pTail kd nd id os q.1 q.2
  | []=>none
def parseR:List Int→Option (GFrame × List Int)
  | kd::nd::id::no::t=>(pOps no.toNat t).bind fun p=>pRest kd nd id p.1 p.2
  | _=>none
def noF:GFrame:=⟨0,0,0,[],[],[],[]⟩
def finZ:Option (GFrame × List Int)→GFrame × Int
  | some (f,[])=>bif frameZ f==0 then (f,0) else (noF,1)
  | _=>(noF,1)
def decZ (l:List Int):GFrame × Int:=finZ (parseR l)
structure Rd8 (x:GReader) (l:List Int):Prop where
  s:byL x.s=l
  ok:x.bad=false
  small:x.s.size≤140737488351232
def Bad8 (x:GReader):Prop:=x.bad=true∧x.s.size≤140737488351232
theorem rByte_go {fu:Nat} {x:GReader} {c:Int} {t:List Int} (h:Rd8 x (c::t)) : ∃ x',rByteD fu x=some (c,x')∧Rd8 x' t:=by
  have hlen:=byL_len x.s
  rw [h.s,List.length_cons] at hlen
  obtain ⟨s',h1,h2⟩:=byL_cut (s:=x.s) (k:=1) (by omega)
  have h1:cutB x.s (some 1) none=some s':=h1
  have hs':=byL_len s'
  rw [h2,List.length_drop,byL_len] at hs'
  have hsm:=h.small
  have hi:idxS x.s 0=some c:=by
    have:=byL_idx x.s 0
    rw [h.s] at this
    exact this
  have hc:=byL_range (s:=x.s) (c:=c) (by rw [h.s];exact List.mem_cons_self)
  refine ⟨{ x with s:=s' },?_,⟨by rw [h2,h.s];rfl,h.ok,by show s'.size≤_;omega⟩⟩
  unfold rByteD
  rw [byL_empty,h.s,bif_f (by rfl),hi,some_bind,h1,some_bind,chkS_ok (by omega),some_bind,some_bind,wr64 (by omega) (by omega)]
theorem rByte_end {fu:Nat} {x:GReader} (h:Rd8 x []) : ∃ x',rByteD fu x=some (0,x')∧Bad8 x':=by
  refine ⟨{ x with bad:=true },?_,rfl,h.small⟩
  unfold rByteD
  rw [byL_empty,h.s,bif_t (by rfl),some_bind]
theorem rByte_bad {fu:Nat} {x:GReader} (h:Bad8 x) : ∃ v x',rByteD fu x=some (v,x')∧Bad8 x':=by
  cases hl:byL x.s with
  | nil =>
    refine ⟨0,{ x with bad:=true },?_,rfl,h.2⟩
    unfold rByteD
    rw [byL_empty,hl,bif_t (by rfl),some_bind]
  | cons c t =>
    have hlen:=byL_len x.s
    rw [hl,List.length_cons] at hlen
    obtain ⟨s',h1,h2⟩:=byL_cut (s:=x.s) (k:=1) (by omega)
    have h1:cutB x.s (some 1) none=some s':=h1
    have hs':=byL_len s'
    rw [h2,List.length_drop,byL_len] at hs'
    have hsm:=h.2
    have hi:idxS x.s 0=some c:=by
      have:=byL_idx x.s 0
      rw [hl] at this
      exact this
    refine ⟨IntKind.wrap .i64 c,{ x with s:=s' },?_,h.1,by show s'.size≤_;omega⟩
    unfold rByteD
    rw [byL_empty,hl,bif_f (by rfl),hi,some_bind,h1,some_bind,chkS_ok (by omega),some_bind,some_bind]
theorem orI_byte {y c:Int} (h0:0≤y) (h1:y<1099511627776) (hc0:0≤c) (hc1:c<256):orI .i64 (IntKind.wrap .i64 (y*2 ^ (min (Int.toNat 8) (IntKind.bits .i64)))) c=y*256+c:=by
  have e:(2:Int) ^ (min (Int.toNat 8) (IntKind.bits .i64))=256:=by decide
  rw [e,wr64 (by omega) (by omega)]
  obtain ⟨a,rfl⟩:=Int.eq_ofNat_of_zero_le h0
  obtain ⟨b,rfl⟩:=Int.eq_ofNat_of_zero_le hc0
  exact or_bytes a b (by omega) (by omega)
theorem rNumber_l1_bad {fu:Nat} : ∀ (n m:Nat) (x:GReader) (y:Int) (k:Int),(6-k).toNat=m→0≤k→m<n→Bad8 x → ∃ v x',rNumber_l1 fu n x y k=some (v,x')∧Bad8 x'
  | 0,m,x,y,k,_,_,h,_=>absurd h (by omega)
  | n+1,m,x,y,k,hm,hk,hn,hx=>by
    rw [rNumber_l1]
    by_cases h:k<6
    · obtain ⟨v,x',h1,h2⟩:=rByte_bad (fu:=fu) hx
      rw [bif_t (dec_t h),h1,some_bind,wr64 (x:=k+1) (by omega) (by omega)]
      exact rNumber_l1_bad n (m-1) x' _ (k+1) (by omega) (by omega) (by omega) h2
    · rw [bif_f (dec_f h)]
      exact ⟨_,x,rfl,hx⟩
theorem rNumberD_bad {fu:Nat} (hf:8≤fu) {x:GReader} (hx:Bad8 x) : ∃ v x',rNumberD fu x=some (v,x')∧Bad8 x':=rNumber_l1_bad fu 6 x 0 0 rfl (by omega) (by omega) hx
theorem rNumber_step {fu n:Nat} {x:GReader} {c:Int} {t:List Int} (h:Rd8 x (c::t)) {y k:Int} (hk:k<6) (hk0:0≤k) (h0:0≤y) (h1:y<1099511627776) : ∃ x',rNumber_l1 fu (n+1) x y k=rNumber_l1 fu n x' (y*256+c) (k+1)∧Rd8 x' t:=by
  obtain ⟨x',h2,h3⟩:=rByte_go (fu:=fu) h
  have hc:=byL_range (s:=x.s) (c:=c) (by rw [h.s];exact List.mem_cons_self)
  refine ⟨x',?_,h3⟩
  rw [rNumber_l1,bif_t (dec_t hk),h2,some_bind,orI_byte h0 h1 hc.1 hc.2,wr64 (x:=k+1) (by omega) (by omega)]
theorem rNumberD_go {fu:Nat} (hf:8≤fu) {x:GReader} {a b c d e f:Int} {t:List Int} (h:Rd8 x (a::b::c::d::e::f::t)) : ∃ x',rNumberD fu x=some (sixV a b c d e f,x')∧Rd8 x' t:=by
  have hr : ∀ z∈[a,b,c,d,e,f],0≤z∧z<256:=fun z hz=>byL_range (s:=x.s) (by rw [h.s];simp at hz ⊢;rcases hz with rfl | rfl | rfl | rfl | rfl | rfl<;>simp)
  have ha:=hr a (by simp)
  have hb:=hr b (by simp)
  have hc:=hr c (by simp)
  have hd:=hr d (by simp)
  have he:=hr e (by simp)
  have hff:=hr f (by simp)
  obtain ⟨n,rfl⟩ : ∃ n,fu=n+7:=⟨fu-7,by omega⟩
  obtain ⟨x1,e1,r1⟩:=rNumber_step (fu:=n+7) (n:=n+6) h (y:=0) (k:=0) (by omega) (by omega) (by omega) (by omega)
  obtain ⟨x2,e2,r2⟩:=rNumber_step (fu:=n+7) (n:=n+5) r1 (y:=0*256+a) (k:=0+1) (by omega) (by omega) (by omega) (by omega)
  obtain ⟨x3,e3,r3⟩:=rNumber_step (fu:=n+7) (n:=n+4) r2 (y:=(0*256+a)*256+b) (k:=0+1+1) (by omega) (by omega) (by omega) (by omega)
  obtain ⟨x4,e4,r4⟩:=rNumber_step (fu:=n+7) (n:=n+3) r3 (y:=((0*256+a)*256+b)*256+c) (k:=0+1+1+1) (by omega) (by omega) (by omega) (by omega)
  obtain ⟨x5,e5,r5⟩:=rNumber_step (fu:=n+7) (n:=n+2) r4 (y:=(((0*256+a)*256+b)*256+c)*256+d) (k:=0+1+1+1+1) (by omega) (by omega) (by omega) (by omega)
  obtain ⟨x6,e6,r6⟩:=rNumber_step (fu:=n+7) (n:=n+1) r5 (y:=((((0*256+a)*256+b)*256+c)*256+d)*256+e) (k:=0+1+1+1+1+1) (by omega) (by omega) (by omega) (by omega)
  refine ⟨x6,?_,r6⟩
  unfold rNumberD
  rw [e1,e2,e3,e4,e5,e6,rNumber_l1,bif_f (by rfl),wr64 (by omega) (by omega)]
  unfold sixV
  rw [Int.zero_mul,Int.zero_add]
theorem rNumber_l1_short {fu:Nat} : ∀ (t:List Int) (n:Nat) (x:GReader) (y k:Int),Rd8 x t→(t.length:Int)+k<6→0≤k→(6-k).toNat<n → ∃ v x',rNumber_l1 fu n x y k=some (v,x')∧Bad8 x'
  | _,0,x,y,k,_,_,_,h=>absurd h (by omega)
  | [],n+1,x,y,k,hx,hs,hk,hn=>by
    obtain ⟨x',h1,h2⟩:=rByte_end (fu:=fu) hx
    simp at hs
    rw [rNumber_l1,bif_t (dec_t hs),h1,some_bind,wr64 (x:=k+1) (by omega) (by omega)]
    exact rNumber_l1_bad n (6-(k+1)).toNat x' _ (k+1) rfl (by omega) (by omega) h2
  | c::t,n+1,x,y,k,hx,hs,hk,hn=>by
    obtain ⟨x',h1,h2⟩:=rByte_go (fu:=fu) hx
    simp at hs
    rw [rNumber_l1,bif_t (dec_t (by omega)),h1,some_bind,wr64 (x:=k+1) (by omega) (by omega)]
    exact rNumber_l1_short t n x' _ (k+1) h2 (by omega) (by omega) (by omega)
theorem rNumberD_short {fu:Nat} (hf:8≤fu) {x:GReader} {t:List Int} (h:Rd8 x t) (hs:t.length<6) : ∃ v x',rNumberD fu x=some (v,x')∧Bad8 x':=rNumber_l1_short t fu x 0 0 h (by omega) (by omega) (by omega)
section
variable {fu:Nat}
theorem dec_l3_bad {n:Nat} {x:GReader} {d:GFrame} {y:Int} (hx:Bad8 x):decode_l3 fu (n+1) x d y=some (noF,1):=by
  rw [decode_l3]
  unfold decode_j6 decode_j8
  rw [hx.1]
  cases decide (y>0)<;>rfl
theorem dec_l2_bad {n:Nat} (hf:8≤fu) {x:GReader} {d:GFrame} {y:Int} (hx:Bad8 x):decode_l2 fu (n+1) x d y=some (noF,1):=by
  obtain ⟨v,x',h1,h2⟩:=rByte_bad (fu:=fu) hx
  obtain ⟨m,rfl⟩ : ∃ m,fu=m+1:=⟨fu-1,by omega⟩
  have h3:=dec_l3_bad (fu:=m+1) (n:=m) (d:=d) (y:=v) h2
  rw [decode_l2]
  unfold decode_j4
  rw [hx.1]
  cases decide (y>0)
  · simp only [cond_false]
    rw [h1,some_bind];exact h3
  · simp only [cond_true,Bool.not_true,cond_false]
    rw [h1,some_bind];exact h3
theorem dec_l1_bad {n:Nat} (hf:8≤fu) {x:GReader} {d:GFrame} {y:Int} (hx:Bad8 x):decode_l1 fu (n+1) x d y=some (noF,1):=by
  obtain ⟨v,x',h1,h2⟩:=rByte_bad (fu:=fu) hx
  obtain ⟨m,rfl⟩ : ∃ m,fu=m+1:=⟨fu-1,by omega⟩
  have h3:=dec_l2_bad (fu:=m+1) (n:=m) hf (d:=d) (y:=v) h2
  rw [decode_l1]
  unfold decode_j2
  rw [hx.1]
  cases decide (y>0)
  · simp only [cond_false]
    rw [h1,some_bind];exact h3
  · simp only [cond_true,Bool.not_true,cond_false]
    rw [h1,some_bind];exact h3
theorem dec_end {x:GReader} {l:List Int} (hx:Rd8 x l) {n:Nat} {d:GFrame} {y:Int} (hy : ¬ y>0):decode_l3 fu (n+1) x d y=some (finZ (some (d,l))):=by
  rw [decode_l3,bif_f (dec_f hy)]
  unfold decode_j6 decode_j8 decode_j7
  rw [bif_f rfl,hx.ok,bif_f rfl,byL_empty,hx.s]
  cases l with
  | nil =>
    rw [bif_f (by rfl),some_bind]
    have e0:finZ (some (d,[]))=bif frameZ d==0 then (d,0) else (noF,1):=rfl
    rw [e0]
    by_cases h:frameZ d=0
    · rw [h];rfl
    · have e1:(frameZ d != 0)=true:=by simp [h]
      have e2:(frameZ d==0)=false:=by simp [h]
      rw [e1,e2];rfl
  | cons c t=>rfl
theorem dec_l3_eq (hf:12≤fu) : ∀ (m n:Nat) (x:GReader) (l:List Int) (d:GFrame),m<n→m<256→d.at_.length+m≤300→d.vals.length+m≤300→Rd8 x l →
    decode_l3 fu n x d m=some (finZ ((pAts m l).map fun z=>({ d with at_:=d.at_++z.1,vals:=d.vals++z.2.1 },z.2.2)))
  | m,0,_,_,_,h,_,_,_,_=>absurd h (by omega)
  | 0,n+1,x,l,d,_,_,_,_,hx=>by
    rw [dec_end hx (by omega),pAts]
    have e:({ d with at_:=d.at_++[],vals:=d.vals++[] }:GFrame)=d:=by simp
    simp only [Option.map_some]
    rw [e]
  | m+1,n+1,x,l,d,hn,hm,ha,hv,hx=>by
    have hy:(((m+1:Nat):Int))>0:=by omega
    have e1:IntKind.wrap .i64 (((m+1:Nat):Int)-1)=(m:Int):=by rw [wr64 (by omega) (by omega)];omega
    rw [decode_l3,bif_t (dec_t hy)]
    unfold decode_j6 decode_j5
    rw [hx.ok,bif_t (c := !false) rfl]
    cases l with
    | nil =>
      obtain ⟨x',h1,h2⟩:=rByte_end (fu:=fu) hx
      obtain ⟨v,x2,h3,h4⟩:=rNumberD_bad (fu:=fu) (by omega) h2
      simp only [h1,h3,some_bind]
      rw [app_ok (by have:Rep.bytes Int=8:=rfl;rw [this];simp;omega),some_bind,app_ok (by have:Rep.bytes Int=8:=rfl;rw [this];simp;omega),some_bind,e1]
      obtain ⟨n,rfl⟩ : ∃ q,n=q+1:=⟨n-1,by omega⟩
      rw [dec_l3_bad h4]
      rfl
    | cons k t =>
      obtain ⟨x',h1,h2⟩:=rByte_go (fu:=fu) hx
      by_cases h6:t.length<6
      · obtain ⟨v,x2,h3,h4⟩:=rNumberD_short (fu:=fu) (by omega) h2 h6
        simp only [h1,h3,some_bind]
        rw [app_ok (by have:Rep.bytes Int=8:=rfl;rw [this];simp;omega),some_bind,app_ok (by have:Rep.bytes Int=8:=rfl;rw [this];simp;omega),some_bind,e1]
        obtain ⟨n,rfl⟩ : ∃ q,n=q+1:=⟨n-1,by omega⟩
        rw [dec_l3_bad h4]
        have:pAts (m+1) (k::t)=none:=by
          match t,h6 with
          | [],_=>rfl
          | [_],_=>rfl
          | [_,_],_=>rfl
          | [_,_,_],_=>rfl
          | [_,_,_,_],_=>rfl
          | [_,_,_,_,_],_=>rfl
          | _::_::_::_::_::_::_,h=>simp at h;omega
        rw [this]
        rfl
      · obtain ⟨a,b,c,e,f,g,u,rfl⟩ : ∃ a b c e f g u,t=a::b::c::e::f::g::u:=by
          match t,h6 with
          | [],h=>simp at h
          | [_],h=>simp at h
          | [_,_],h=>simp at h
          | [_,_,_],h=>simp at h
          | [_,_,_,_],h=>simp at h
          | [_,_,_,_,_],h=>simp at h
          | a::b::c::e::f::g::u,_=>exact ⟨a,b,c,e,f,g,u,rfl⟩
        obtain ⟨x2,h3,h4⟩:=rNumberD_go (fu:=fu) (by omega) h2
        simp only [h1,h3,some_bind]
        rw [app_ok (by have:Rep.bytes Int=8:=rfl;rw [this];simp;omega),some_bind,app_ok (by have:Rep.bytes Int=8:=rfl;rw [this];simp;omega),some_bind,e1]
        rw [dec_l3_eq hf m n x2 u { d with at_:=d.at_++[k],vals:=d.vals++[sixV a b c e f g] } (by omega) (by omega) (by simp;omega) (by simp;omega) h4,pAts]
        cases hp:pAts m u with
        | none=>rfl
        | some p=>simp [List.append_assoc]
theorem dec_l2_eq (hf:300≤fu) : ∀ (m n:Nat) (x:GReader) (l:List Int) (d:GFrame),m<n→m<256→d.deps.length+m≤300→d.at_=[]→d.vals=[]→Rd8 x l→(∀ c∈l,0≤c∧c<256) →
    decode_l2 fu n x d m=some (finZ ((pDeps m l).bind fun q=>pTail d.kind d.node d.id d.ops (d.deps++q.1) q.2))
  | m,0,_,_,_,h,_,_,_,_,_,_=>absurd h (by omega)
  | 0,n+1,x,l,d,_,_,_,ha,hv,hx,hr=>by
    rw [decode_l2,bif_f (dec_f (by omega))]
    unfold decode_j4
    rw [bif_f rfl]
    cases l with
    | nil =>
      obtain ⟨x',h1,h2⟩:=rByte_end (fu:=fu) hx
      obtain ⟨q,rfl⟩ : ∃ q,fu=q+1:=⟨fu-1,by omega⟩
      rw [h1,some_bind]
      simp only
      rw [dec_l3_bad h2]
      rfl
    | cons k u =>
      obtain ⟨x',h1,h2⟩:=rByte_go (fu:=fu) hx
      have hk:=hr k List.mem_cons_self
      rw [h1,some_bind]
      simp only
      have e:k=((k.toNat:Nat):Int):=by omega
      have h3:=dec_l3_eq (fu:=fu) (by omega) k.toNat fu x' u d (by omega) (by omega) (by rw [ha];simp;omega) (by rw [hv];simp;omega) h2
      rw [← e] at h3
      rw [h3,ha,hv]
      simp [pDeps,pTail]
  | m+1,n+1,x,l,d,hn,hm,hd,ha,hv,hx,hr=>by
    have hy:(((m+1:Nat):Int))>0:=by omega
    have e1:IntKind.wrap .i64 (((m+1:Nat):Int)-1)=(m:Int):=by rw [wr64 (by omega) (by omega)];omega
    rw [decode_l2,bif_t (dec_t hy)]
    unfold decode_j4 decode_j3
    rw [hx.ok,bif_t (c := !false) rfl]
    cases l with
    | nil =>
      obtain ⟨x',h1,h2⟩:=rByte_end (fu:=fu) hx
      simp only [h1,some_bind]
      rw [app_ok (by have:Rep.bytes Int=8:=rfl;rw [this];simp;omega),some_bind,e1]
      obtain ⟨n,rfl⟩ : ∃ q,n=q+1:=⟨n-1,by omega⟩
      rw [dec_l2_bad (by omega) h2]
      rfl
    | cons k t =>
      obtain ⟨x',h1,h2⟩:=rByte_go (fu:=fu) hx
      simp only [h1,some_bind]
      rw [app_ok (by have:Rep.bytes Int=8:=rfl;rw [this];simp;omega),some_bind,e1]
      rw [dec_l2_eq hf m n x' t { d with deps:=d.deps++[k] } (by omega) (by omega) (by simp;omega) ha hv h2 (fun c hc=>hr c (List.mem_cons_of_mem _ hc))]
      unfold pDeps
      by_cases hle:m≤t.length
      · rw [if_pos hle,if_pos (show m+1≤(k::t).length by simp;exact hle)]
        simp only [List.take_succ_cons,List.drop_succ_cons,List.append_assoc,List.cons_append,List.nil_append,Option.bind_some]
      · rw [if_neg hle,if_neg (show ¬ m+1≤(k::t).length by simp;omega)]
        rfl
theorem pOps_short {m:Nat} {t:List Int} (h:t.length<8):pOps (m+1) t=none:=by
  match t,h with
  | [],_=>rfl
  | [_],_=>rfl
  | [_,_],_=>rfl
  | [_,_,_],_=>rfl
  | [_,_,_,_],_=>rfl
  | [_,_,_,_,_],_=>rfl
  | [_,_,_,_,_,_],_=>rfl
  | [_,_,_,_,_,_,_],_=>rfl
  | _::_::_::_::_::_::_::_::_,h=>simp at h;omega
theorem eight_of {t:List Int} (h : ¬ t.length<8) : ∃ k y a b c d e f u,t=k::y::a::b::c::d::e::f::u:=by
  match t,h with
  | [],h=>simp at h
  | [_],h=>simp at h
  | [_,_],h=>simp at h
  | [_,_,_],h=>simp at h
  | [_,_,_,_],h=>simp at h
  | [_,_,_,_,_],h=>simp at h
  | [_,_,_,_,_,_],h=>simp at h
  | [_,_,_,_,_,_,_],h=>simp at h
  | k::y::a::b::c::d::e::f::u,_=>exact ⟨k,y,a,b,c,d,e,f,u,rfl⟩
theorem dec_l1_eq (hf:300≤fu) : ∀ (m n:Nat) (x:GReader) (l:List Int) (d:GFrame),m<n→m<256→d.ops.length+m≤300→d.deps=[]→d.at_=[]→d.vals=[]→Rd8 x l→(∀ c∈l,0≤c∧c<256) →
    decode_l1 fu n x d m=some (finZ ((pOps m l).bind fun p=>pRest d.kind d.node d.id (d.ops++p.1) p.2))
  | m,0,_,_,_,h,_,_,_,_,_,_,_=>absurd h (by omega)
  | 0,n+1,x,l,d,_,_,_,hdd,ha,hv,hx,hr=>by
    rw [decode_l1,bif_f (dec_f (by omega))]
    unfold decode_j2
    rw [bif_f rfl,pOps]
    simp only [Option.bind_some,List.append_nil]
    cases l with
    | nil =>
      obtain ⟨x',h1,h2⟩:=rByte_end (fu:=fu) hx
      obtain ⟨q,rfl⟩ : ∃ q,fu=q+1:=⟨fu-1,by omega⟩
      rw [h1,some_bind]
      simp only
      rw [dec_l2_bad (by omega) h2]
      rfl
    | cons k u =>
      obtain ⟨x',h1,h2⟩:=rByte_go (fu:=fu) hx
      have hk:=hr k List.mem_cons_self
      rw [h1,some_bind]
      simp only
      have e:k=((k.toNat:Nat):Int):=by omega
      have h3:=dec_l2_eq (fu:=fu) hf k.toNat fu x' u d (by omega) (by omega) (by rw [hdd];simp;omega) ha hv h2 (fun c hc=>hr c (List.mem_cons_of_mem _ hc))
      rw [← e] at h3
      rw [h3,hdd]
      simp [pRest]
  | m+1,n+1,x,l,d,hn,hm,ho,hdd,ha,hv,hx,hr=>by
    have hy:(((m+1:Nat):Int))>0:=by omega
    have e1:IntKind.wrap .i64 (((m+1:Nat):Int)-1)=(m:Int):=by rw [wr64 (by omega) (by omega)];omega
    rw [decode_l1,bif_t (dec_t hy)]
    unfold decode_j2 decode_j1
    rw [hx.ok,bif_t (c := !false) rfl]
    by_cases h8:l.length<8
    · rw [pOps_short h8]
      have hbad : ∃ v1 x1 v2 x2 v3 x3,rByteD fu x=some (v1,x1)∧rByteD fu x1=some (v2,x2)∧rNumberD fu x2=some (v3,x3)∧Bad8 x3:=by
        cases l with
        | nil =>
          obtain ⟨x1,h1,r1⟩:=rByte_end (fu:=fu) hx
          obtain ⟨v2,x2,h2,r2⟩:=rByte_bad (fu:=fu) r1
          obtain ⟨v3,x3,h3,r3⟩:=rNumberD_bad (fu:=fu) (by omega) r2
          exact ⟨_,x1,v2,x2,v3,x3,h1,h2,h3,r3⟩
        | cons c t =>
          obtain ⟨x1,h1,r1⟩:=rByte_go (fu:=fu) hx
          cases t with
          | nil =>
            obtain ⟨x2,h2,r2⟩:=rByte_end (fu:=fu) r1
            obtain ⟨v3,x3,h3,r3⟩:=rNumberD_bad (fu:=fu) (by omega) r2
            exact ⟨_,x1,_,x2,v3,x3,h1,h2,h3,r3⟩
          | cons c2 u =>
            obtain ⟨x2,h2,r2⟩:=rByte_go (fu:=fu) r1
            obtain ⟨v3,x3,h3,r3⟩:=rNumberD_short (fu:=fu) (by omega) r2 (by simp at h8;omega)
            exact ⟨_,x1,_,x2,v3,x3,h1,h2,h3,r3⟩
      obtain ⟨v1,x1,v2,x2,v3,x3,h1,h2,h3,r3⟩:=hbad
      simp only [h1,h2,h3,some_bind]
      rw [app_ok (by have:Rep.bytes GOp=24:=rfl;rw [this];simp;omega),some_bind,e1]
      obtain ⟨n,rfl⟩ : ∃ q,n=q+1:=⟨n-1,by omega⟩
      rw [dec_l1_bad (by omega) r3]
      rfl
    · obtain ⟨k,y,a,b,c,dd,e,f,u,rfl⟩:=eight_of h8
      obtain ⟨x1,h1,r1⟩:=rByte_go (fu:=fu) hx
      obtain ⟨x2,h2,r2⟩:=rByte_go (fu:=fu) r1
      obtain ⟨x3,h3,r3⟩:=rNumberD_go (fu:=fu) (by omega) r2
      simp only [h1,h2,h3,some_bind]
      rw [app_ok (by have:Rep.bytes GOp=24:=rfl;rw [this];simp;omega),some_bind,e1]
      rw [dec_l1_eq hf m n x3 u { d with ops:=d.ops++[⟨k,y,sixV a b c dd e f⟩] } (by omega) (by omega) (by simp;omega) hdd ha hv r3 (fun z hz=>hr z (by simp [hz])),pOps]
      cases hp:pOps m u with
      | none=>rfl
      | some p=>simp [List.append_assoc]
theorem decodeD_eq (hf:300≤fu) {s:ByteArray} (hs:s.size≤140737488351232):decodeD fu s=some (decZ (byL s)):=by
  have hr : ∀ c∈byL s,0≤c∧c<256:=fun c hc=>byL_range hc
  have hx:Rd8 { s:=s,bad:=Zr.zd } (byL s):=⟨rfl,rfl,hs⟩
  unfold decodeD
  rw [chkS_ok hs,some_bind,some_bind]
  generalize byL s=l at hr hx
  have hbad : ∀ {x:GReader} {d:GFrame} {y:Int},Bad8 x→decode_l1 fu fu x d y=some (noF,1):=fun {x d y} h=>by
    obtain ⟨q,hq⟩ : ∃ q,fu=q+1:=⟨fu-1,by omega⟩
    have:=dec_l1_bad (fu:=fu) (n:=q) (by omega) (d:=d) (y:=y) h
    rw [← hq] at this
    exact this
  have b1 : ∀ {x:GReader},Bad8 x → ∃ v x',rByteD fu x=some (v,x')∧Bad8 x':=fun h=>rByte_bad h
  match l,hx,hr with
  | [],hx,_ =>
    obtain ⟨x1,h1,r1⟩:=rByte_end (fu:=fu) hx
    obtain ⟨v2,x2,h2,r2⟩:=b1 r1
    obtain ⟨v3,x3,h3,r3⟩:=b1 r2
    obtain ⟨v4,x4,h4,r4⟩:=b1 r3
    simp only [h1,h2,h3,h4,some_bind]
    rw [hbad r4];rfl
  | [a],hx,_ =>
    obtain ⟨x1,h1,r1⟩:=rByte_go (fu:=fu) hx
    obtain ⟨x2,h2,r2⟩:=rByte_end (fu:=fu) r1
    obtain ⟨v3,x3,h3,r3⟩:=b1 r2
    obtain ⟨v4,x4,h4,r4⟩:=b1 r3
    simp only [h1,h2,h3,h4,some_bind]
    rw [hbad r4];rfl
  | [a,b],hx,_ =>
    obtain ⟨x1,h1,r1⟩:=rByte_go (fu:=fu) hx
    obtain ⟨x2,h2,r2⟩:=rByte_go (fu:=fu) r1
    obtain ⟨x3,h3,r3⟩:=rByte_end (fu:=fu) r2
    obtain ⟨v4,x4,h4,r4⟩:=b1 r3
    simp only [h1,h2,h3,h4,some_bind]
    rw [hbad r4];rfl
  | [a,b,c],hx,_ =>
    obtain ⟨x1,h1,r1⟩:=rByte_go (fu:=fu) hx
    obtain ⟨x2,h2,r2⟩:=rByte_go (fu:=fu) r1
    obtain ⟨x3,h3,r3⟩:=rByte_go (fu:=fu) r2
    obtain ⟨x4,h4,r4⟩:=rByte_end (fu:=fu) r3
    simp only [h1,h2,h3,h4,some_bind]
    rw [hbad r4];rfl
  | a::b::c::no::t,hx,hr =>
    obtain ⟨x1,h1,r1⟩:=rByte_go (fu:=fu) hx
    obtain ⟨x2,h2,r2⟩:=rByte_go (fu:=fu) r1
    obtain ⟨x3,h3,r3⟩:=rByte_go (fu:=fu) r2
    obtain ⟨x4,h4,r4⟩:=rByte_go (fu:=fu) r3
    simp only [h1,h2,h3,h4,some_bind]
    have hno:=hr no (by simp)
    have e:no=((no.toNat:Nat):Int):=by omega
    have h5:=dec_l1_eq (fu:=fu) hf no.toNat fu x4 t { kind:=a,node:=b,id:=c,ops:=Zr.zd,deps:=Zr.zd,at_:=Zr.zd,vals:=Zr.zd } (by omega) (by omega) (by show ([]:List GOp).length+_≤_;simp;omega) rfl rfl rfl r4 (fun z hz=>hr z (by simp [hz]))
    rw [← e] at h5
    rw [h5]
    rfl
end
end Go.Proofs.Yteilffoclpgijaa
namespace Go.Proofs.Yteilffoclpgijaa
open Go.RowKit
open Rep (rep)
theorem wrsB (k:Nat) (h:k≤17592186043904):IntKind.wrap .i64 ((k:Int)+1)=((k+1:Nat):Int):=by rw [wr64 (by omega) (by omega)];omega
theorem hdr_eq {s:ByteArray} (h:s.size≤400):strOfNums (([⟨IntKind.wrap .u8 (Int.fdiv (s.size:Int) (2 ^ (min (Int.toNat 8) (IntKind.bits .i64))))⟩,⟨IntKind.wrap .u8 (s.size:Int)⟩]:List Byt).map Byt.val)=strOfNums [(s.size:Int) / 256,(s.size:Int)%256]:=by
  have e:(2:Int) ^ (min (Int.toNat 8) (IntKind.bits .i64))=256:=by decide
  have e1:IntKind.wrap .u8 (Int.fdiv (s.size:Int) (2 ^ (min (Int.toNat 8) (IntKind.bits .i64))))=(s.size:Int) / 256:=by
    rw [e,wr8,Int.fdiv_eq_ediv_of_nonneg _ (by omega)]
    omega
  have e2:IntKind.wrap .u8 (s.size:Int)=(s.size:Int)%256:=wr8 _
  simp only [List.map_cons,List.map_nil,e1,e2]
theorem wout_of {log s:ByteArray} {c:Int} (h:wcode log s=c) (hc:c≠0):wout log s=log:=by unfold wout;rw [h,if_neg hc]
theorem bkWriteD_eq {fu:Nat} {log s:ByteArray} (hs:s.size≤140737488351232):bkWriteD fu log s=some (wout log s,wcode log s):=by
  unfold bkWriteD bkWrite_j2
  by_cases h1:65536<log.size
  · have hc:wcode log s=2:=by unfold wcode;rw [if_pos h1]
    rw [bif_t (dec_t (by omega)),wout_of hc (by decide),hc]
  · rw [bif_f (dec_f (by omega))]
    by_cases h2:s.size=0
    · have hc:wcode log s=1:=by unfold wcode;rw [if_neg h1,if_pos (.inl h2)]
      rw [bif_t (dec_t (by omega)),cond_true,wout_of hc (by decide),hc]
    · rw [bif_f (dec_f (by omega))]
      by_cases h3:400<s.size
      · have hc:wcode log s=1:=by unfold wcode;rw [if_neg h1,if_pos (.inr h3)]
        rw [dec_t (by omega),cond_true,wout_of hc (by decide),hc]
      · rw [dec_f (by omega),cond_false,wr64 (x:=(log.size:Int)+2) (by omega) (by omega),wr64 (by omega) (by omega)]
        by_cases h4:65536<log.size+2+s.size
        · have hc:wcode log s=5:=by unfold wcode;rw [if_neg h1,if_neg (by omega),if_pos h4]
          rw [bif_t (dec_t (by omega)),wout_of hc (by decide),hc]
        · have hc:wcode log s=0:=by unfold wcode;rw [if_neg h1,if_neg (by omega),if_neg h4]
          have hz:(strOfNums [(s.size:Int) / 256,(s.size:Int)%256]).size=2:=rfl
          have hw:wout log s=wtext log s:=by unfold wout;rw [if_pos hc]
          rw [bif_f (dec_f (by omega)),bkWrite_j1,hdr_eq (by omega),cat_ok (by omega),some_bind,cat_ok (by rw [ByteArray.size_append];omega),some_bind,hc,hw]
          rfl
theorem bkTearD_eq {fu:Nat} {log s:ByteArray} {n:Int} (hs:s.size≤140737488351232):bkTearD fu log s n=some (tearZ log s n):=by
  unfold bkTearD
  rw [bkWriteD_eq hs,some_bind]
  rcases wcode_or log s with ⟨h0,h1,h2,h3⟩ | ⟨h0,_⟩
  · have hw:wout log s=wtext log s:=by unfold wout;rw [if_pos h0]
    have hsz:=wtext_size log s
    unfold tearZ
    rw [h0,hw,bif_f (by rfl),if_pos rfl]
    dsimp only
    rw [wr64 (x:=((wtext log s).size:Int)-(log.size:Int)) (by omega) (by omega),wr64 (by omega) (by omega)]
    unfold cutB cutOk
    simp only [Option.getD_some,Option.getD_none]
    rw [if_pos (by omega)]
    have e:((log.size:Int)+max 0 (min n (((wtext log s).size:Int)-(log.size:Int)))).toNat=log.size+tornLen s n:=by
      unfold tornLen
      split
      · omega
      · split<;>omega
    rw [e]
    rfl
  · unfold tearZ
    rw [bif_t (by simpa using h0),if_neg h0]
theorem idxS_at {s:ByteArray} {k:Nat} (h:k<s.size):idxS s (k:Int)=some ((s[k]).toNat:Int):=by
  unfold idxS
  rw [if_pos (by omega),Int.toNat_natCast,getElem?_pos s k h]
  rfl
theorem two_bytes {s:ByteArray} {k:Nat} (h:k+2≤s.size):orI .i64 (IntKind.wrap .i64 ((IntKind.wrap .i64 (((s[k]).toNat:Nat):Int))*2 ^ (min (Int.toNat 8) (IntKind.bits .i64)))) (IntKind.wrap .i64 (((s[k+1]).toNat:Nat):Int))=((recN s[k] s[k+1]:Nat):Int):=by
  have h1:=(s[k]).toNat_lt
  have h2:=(s[k+1]).toNat_lt
  rw [wr64 (x:=(((s[k]).toNat:Nat):Int)) (by omega) (by omega),wr64 (x:=(((s[k+1]).toNat:Nat):Int)) (by omega) (by omega),orI_byte (by omega) (by omega) (by omega) (by omega)]
  unfold recN
  omega
theorem bkRead_l1_eq {log:ByteArray} (hl:log.size≤65536) : ∀ (n m k:Nat) (acc:List ByteArray),log.size≤k+m→m<n→k≤log.size→ReadTo log acc k→bkRead_l1 log n acc k=some ((readL log.data.toList).1,((readL log.data.toList).2:Int))
  | 0,m,k,_,_,h,_,_=>absurd h (by omega)
  | n+1,m,k,acc,hk,hn,hkl,h=>by
    have hb:Rep.bytes ByteArray=16:=rfl
    have hlen:=h.2.2
    have hdl:log.data.toList.length=log.size:=rfl
    rw [bkRead_l1,wr64 (x:=(k:Int)+2) (by omega) (by omega)]
    by_cases h2:k+2≤log.size
    · have hstop : ¬ (1≤recN log[k] log[k+1]∧recN log[k] log[k+1]≤400∧recN log[k] log[k+1]≤log.size-k-2)→some (acc,(k:Int))=some ((readL log.data.toList).1,((readL log.data.toList).2:Int)):=fun hno=>by
        have he:readL (log.data.toList.drop k)=([],0):=by
          rw [drop_two h2,readL_stop (by rw [List.length_drop,hdl];omega)]
        rw [readTo_end h he]
      have hrn:recN log[k] log[k+1]<65536:=by
        have h1:=(log[k]).toNat_lt
        have h2:=(log[k+1]).toNat_lt
        unfold recN
        omega
      have hi:=two_bytes h2
      rw [bif_t (dec_t (by omega)),idxS_at (by omega),some_bind,wrsB k (by omega),idxS_at (by omega),some_bind]
      simp only [bkRead_j3,bkRead_j2,bkRead_j1,hi]
      rw [wr64 (x:=(log.size:Int)-(k:Int)) (by omega) (by omega),wr64 (x:=(log.size:Int)-(k:Int)-2) (by omega) (by omega)]
      generalize hr:recN log[k] log[k+1]=r at hstop hrn
      by_cases c1:r<1
      · rw [bif_t (dec_t (by omega)),cond_true];exact hstop (by omega)
      · rw [bif_f (dec_f (by omega))]
        by_cases c2:400<r
        · rw [bif_t (dec_t (by omega)),cond_true];exact hstop (by omega)
        · rw [bif_f (dec_f (by omega))]
          by_cases c3:log.size-k-2<r
          · rw [dec_t (by omega),cond_true];exact hstop (by omega)
          · rw [dec_f (by omega),cond_false]
            have hnext:=readTo_next h h2 (by rw [hr];omega)
            rw [hr] at hnext
            have e1:IntKind.wrap .i64 ((k:Int)+IntKind.wrap .i64 (2+(r:Int)))=((k+(2+r):Nat):Int):=by
              rw [wr64 (x:=2+(r:Int)) (by omega) (by omega),wr64 (by omega) (by omega)]
              omega
            have e2:cutB log (some (IntKind.wrap .i64 ((k:Int)+2))) (some (IntKind.wrap .i64 (IntKind.wrap .i64 ((k:Int)+2)+(r:Int))))=some (log.extract (k+2) (k+2+r)):=by
              rw [wr64 (x:=(k:Int)+2) (by omega) (by omega),wr64 (by omega) (by omega)]
              unfold cutB cutOk
              simp only [Option.getD_some]
              rw [if_pos (by omega)]
              have e:((k:Int)+2).toNat=k+2:=by omega
              have e':((k:Int)+2+(r:Int)).toNat=k+2+r:=by omega
              rw [e,e']
              rfl
            have e3:(log.extract (k+2) (k+2+r)).size≤140737488351232:=by
              rw [ByteArray.size_extract]
              omega
            rw [wr64 (x:=(k:Int)+2) (by omega) (by omega)] at e2
            first
              | rw [e2,some_bind,chkS_ok e3,some_bind,app_ok (by rw [hb];simp only [List.length_singleton];omega),some_bind,e1]
              | rw [wr64 (x:=(k:Int)+2) (by omega) (by omega),e2,some_bind,chkS_ok e3,some_bind,app_ok (by rw [hb];simp only [List.length_singleton];omega),some_bind,e1]
            exact bkRead_l1_eq hl n (m-1) (k+(2+r)) _ (by omega) (by omega) (by omega) hnext
    · rw [bif_f (dec_f (by omega)),bkRead_j1]
      have he:readL (log.data.toList.drop k)=([],0):=readL_short (by rw [List.length_drop,hdl];omega)
      rw [readTo_end h he]
theorem bkReadD_eq {fu:Nat} {log:ByteArray} (hl:log.size≤65536) (hf:log.size<fu):bkReadD fu log=some ((readL log.data.toList).1,((readL log.data.toList).2:Int)) :=
  bkRead_l1_eq hl fu log.size 0 [] (by omega) hf (by omega) (readTo_zero log)
theorem readL_small : ∀ (n:Nat) (l:List UInt8),l.length≤n→(readL l).2≤l.length∧(readL l).1.length≤l.length ∧ ∀ x∈(readL l).1,x.size≤400
  | n,[],_=>by rw [readL_short (by simp)];simp
  | n,[x],_=>by rw [readL_short (by simp)];simp
  | 0,a::b::r,h=>by simp at h
  | n+1,a::b::r,h=>by
    by_cases hk:1≤recN a b∧recN a b≤400∧recN a b≤r.length
    · have ih:=readL_small n (r.drop (recN a b)) (by simp at h ⊢;omega)
      rw [List.length_drop] at ih
      rw [readL_go hk]
      refine ⟨by simp only [List.length_cons];omega,by simp only [List.length_cons];omega,fun x hx => ?_⟩
      rcases List.mem_cons.1 hx with rfl | hx
      · show (List.take _ r).toArray.size≤400
        simp
        omega
      · exact ih.2.2 x hx
    · rw [readL_stop hk]
      simp
end Go.Proofs.Yteilffoclpgijaa
namespace Go.Proofs.Yteilffoclpgijaa
inductive Path (E:Nat→Nat→Prop):Nat→Nat→Prop where
  | refl (a:Nat):Path E a a
  | tail {a b c:Nat}:Path E a b→E b c→Path E a c
section
variable {E:Nat→Nat→Prop}
theorem Path.trans {a b c:Nat} (h:Path E a b) (k:Path E b c):Path E a c:=by
  induction k with
  | refl=>exact h
  | tail _ e ih=>exact .tail ih e
theorem Path.one {a b:Nat} (h:E a b):Path E a b := .tail (.refl a) h
theorem Path.head {a b c:Nat} (h:E a b) (k:Path E b c):Path E a c:=(Path.one h).trans k
theorem Path.closed {S:Nat→Prop} (hS : ∀ a b,S a→E a b→S b) {a b:Nat} (h:Path E a b) (ha:S a):S b:=by
  induction h with
  | refl=>exact ha
  | tail _ e ih=>exact hS _ _ ih e
structure Srch where
  mark:Nat→Nat
  low:Nat→Nat
  ring:Nat→Nat
  stack:List Nat
  next:Nat
def updN {α : Type} (f:Nat → α) (i:Nat) (x : α):Nat → α := fun k=>if k=i then x else f k
theorem updN_same {α : Type} (f:Nat → α) (i:Nat) (x : α):updN f i x i=x:=by simp [updN]
theorem updN_other {α : Type} (f:Nat → α) {i k:Nat} (x : α) (h:k≠i):updN f i x k=f k:=by simp [updN,h]
def Least (E:Nat→Nat→Prop) (v r:Nat):Prop:=Path E v r∧Path E r v ∧ ∀ w,Path E v w→Path E w v→r≤w
def wh (f:Nat→Nat):Nat:=(List.range 32).countP (fun i=>f i==0)
theorem countP_turn {p q:Nat→Bool} {n:Nat} (hp:p n=true) (hq:q n=false) (ho : ∀ k,k≠n→p k=q k) : ∀ (l:List Nat),l.Nodup→n∈l→l.countP p=l.countP q+1:=by
  have hsame : ∀ (l:List Nat),n∉l→l.countP p=l.countP q:=by
    intro l
    induction l with
    | nil=>intro _;rfl
    | cons a t ih =>
      intro hn
      simp only [List.mem_cons,not_or] at hn
      rw [List.countP_cons,List.countP_cons,ih hn.2,ho a (fun e=>hn.1 e.symm)]
  intro l
  induction l with
  | nil=>intro _ h;cases h
  | cons a t ih =>
    intro hnd hm
    rw [List.nodup_cons] at hnd
    rw [List.countP_cons,List.countP_cons]
    by_cases e:a=n
    · subst e
      rw [hsame t hnd.1,hp,hq]
      simp
    · have hmt:n∈t:=by
        rcases List.mem_cons.1 hm with h | h
        · exact absurd h.symm e
        · exact h
      rw [ih hnd.2 hmt,ho a e]
      omega
theorem countP_le {p q:Nat→Bool} (h : ∀ k,p k=true→q k=true) (l:List Nat):l.countP p≤l.countP q:=by
  induction l with
  | nil=>exact Nat.le_refl _
  | cons a t ih =>
    rw [List.countP_cons,List.countP_cons]
    cases hp:p a with
    | false=>simp;omega
    | true=>rw [h a hp];simp;omega
theorem wh_updN {f:Nat→Nat} {n x:Nat} (hn:n<32) (h0:f n=0) (hx:0<x):wh f=wh (updN f n x)+1:=by
  unfold wh
  refine countP_turn (n:=n) (by simp [h0]) ?_ (fun k hk=>by rw [updN_other _ _ hk]) _ List.nodup_range (List.mem_range.2 hn)
  rw [updN_same]
  simp
  omega
theorem wh_mono {f f':Nat→Nat} (h : ∀ v,0<f v→0<f' v):wh f'≤wh f:=by
  unfold wh
  refine countP_le (fun k hk => ?_) _
  have hk':f' k=0:=by simpa using hk
  have:f k=0:=by
    rcases Nat.eq_zero_or_pos (f k) with h0 | h0
    · exact h0
    · have:=h k h0;omega
  simp [this]
structure Inv (E:Nat→Nat→Prop) (s:Srch) (G:List Nat):Prop where
  lt : ∀ v,0<s.mark v→v<32
  le : ∀ v,s.mark v≤s.next
  inj : ∀ u v,s.mark u=s.mark v→0<s.mark u→u=v
  cnt:s.next+wh s.mark≤32
  sorted:s.stack.Pairwise (fun a b=>s.mark a<s.mark b)
  pos : ∀ v∈s.stack,0<s.mark v
  gray : ∀ g∈G,g∈s.stack
  black : ∀ v w,0<s.mark v→v∉G→E v w→0<s.mark w
  done : ∀ v w,0<s.mark v→v∉s.stack→E v w→w∉s.stack
  ring : ∀ v,0<s.mark v→v∉s.stack→Least E v (s.ring v)
  reach : ∀ x∈G,∀ y∈s.stack,s.mark x≤s.mark y→Path E x y
  back : ∀ y∈s.stack,∃ x∈G,s.mark x≤s.mark y∧Path E y x
structure Ext (E:Nat→Nat→Prop) (s s':Srch) (n:Nat):Prop where
  mark_old : ∀ v,0<s.mark v→s'.mark v=s.mark v
  low_old : ∀ v,0<s.mark v→s'.low v=s.low v
  fresh : ∀ v,s.mark v=0→0<s'.mark v→s.next<s'.mark v∧Path E n v
  next:s.next≤s'.next
structure Post (E:Nat→Nat→Prop) (s s':Srch) (n:Nat) (G:List Nat):Prop where
  inv:Inv E s' G
  ext:Ext E s s' n
  mine:0<s'.mark n
  low_le:s'.low n≤s'.mark n
  low_or:s'.low n=s'.mark n ∨ ∃ z∈s.stack,s'.mark z=s'.low n∧Path E n z
  stack : ∃ new,s'.stack=s.stack++new ∧ ∀ y∈new,∀ z∈s.stack,E y z→s'.low n≤s'.mark z
structure LI (E:Nat→Nat→Prop) (s:Srch) (G:List Nat) (n:Nat) (t:Srch) (ds:Nat→Prop):Prop where
  was:Inv E s G
  white:s.mark n=0
  inv:Inv E t (n::G)
  ext:Ext E s t n
  nmark:t.mark n=s.next+1
  low_le:t.low n≤t.mark n
  low_or:t.low n=t.mark n ∨ ∃ z∈s.stack,t.mark z=t.low n∧Path E n z
  stack : ∃ new,t.stack=s.stack++n::new ∧ ∀ y∈new,∀ z∈s.stack,E y z→t.low n≤t.mark z
  proc : ∀ d,ds d→0<t.mark d∧(d∈s.stack→t.low n≤t.mark d)
def startT (s:Srch) (n:Nat):Srch:={ mark:=updN s.mark n (s.next+1),low:=updN s.low n (s.next+1),ring:=s.ring,stack:=s.stack++[n],next:=s.next+1 }
theorem LI.start {s:Srch} {G:List Nat} {n:Nat} (h:Inv E s G) (hn:n<32) (h0:s.mark n=0) (hG : ∀ g∈G,Path E g n):LI E s G n (startT s n) (fun _=>False):=by
  have hns:n∉s.stack:=fun hm=>by have:=h.pos n hm;omega
  have hmk : ∀ v,v≠n→(startT s n).mark v=s.mark v:=fun v hv=>updN_other _ _ hv
  have hmn:(startT s n).mark n=s.next+1:=updN_same _ _ _
  have hne : ∀ v,0<s.mark v→v≠n:=fun v hv e=>by subst e;omega
  have hst:(startT s n).stack=s.stack++[n]:=rfl
  refine ⟨h,h0,⟨fun v hv => ?_,fun v => ?_,fun u v huv hu => ?_,?_,?_,fun v hv => ?_,fun g hg => ?_,fun v w hv hg he => ?_,fun v w hv hs he => ?_,fun v hv hs => ?_,fun x hx y hy hxy => ?_,fun y hy => ?_⟩,⟨fun v hv=>hmk v (hne v hv),fun v hv=>updN_other _ _ (hne v hv),fun v hv hv' => ?_,Nat.le_succ _⟩,hmn,?_,.inl ?_,⟨[],rfl,by simp⟩,fun d hd=>hd.elim⟩
  · by_cases e:v=n
    · subst e;exact hn
    · rw [hmk v e] at hv;exact h.lt v hv
  · show _≤s.next+1
    by_cases e:v=n
    · subst e;rw [hmn];exact Nat.le_refl _
    · rw [hmk v e];have:=h.le v;omega
  · by_cases e1:u=n
    · by_cases e2:v=n
      · rw [e1,e2]
      · subst e1;rw [hmn,hmk v e2] at huv;have:=h.le v;omega
    · by_cases e2:v=n
      · subst e2;rw [hmn,hmk u e1] at huv;have:=h.le u;omega
      · rw [hmk u e1,hmk v e2] at huv;rw [hmk u e1] at hu;exact h.inj u v huv hu
  · have:=wh_updN (x:=s.next+1) hn h0 (by omega)
    have hc:=h.cnt
    show s.next+1+wh (updN s.mark n (s.next+1))≤32
    omega
  · rw [hst,List.pairwise_append]
    refine ⟨?_,List.pairwise_singleton _ _,fun a ha b hb => ?_⟩
    · refine List.Pairwise.imp_of_mem (fun {a b} ha hb hab => ?_) h.sorted
      rw [hmk a (fun e=>hns (e ▸ ha)),hmk b (fun e=>hns (e ▸ hb))]
      exact hab
    · rw [List.mem_singleton] at hb
      subst hb
      rw [hmn,hmk a (fun e=>hns (e ▸ ha))]
      have:=h.le a;omega
  · rw [hst,List.mem_append,List.mem_singleton] at hv
    rcases hv with hv | rfl
    · have:=h.pos v hv
      rw [hmk v (hne v this)];exact this
    · rw [hmn];omega
  · rw [hst,List.mem_append,List.mem_singleton]
    rcases List.mem_cons.1 hg with rfl | hg
    · exact .inr rfl
    · exact .inl (h.gray g hg)
  · simp only [List.mem_cons,not_or] at hg
    rw [hmk v hg.1] at hv
    have:=h.black v w hv hg.2 he
    rw [hmk w (hne w this)];exact this
  · rw [hst,List.mem_append,List.mem_singleton,not_or] at hs
    rw [hmk v hs.2] at hv
    rw [hst,List.mem_append,List.mem_singleton,not_or]
    refine ⟨h.done v w hv hs.1 he,fun e => ?_⟩
    subst e
    have hvG:v∉G:=fun hg=>hs.1 (h.gray v hg)
    have:=h.black v w hv hvG he
    omega
  · rw [hst,List.mem_append,List.mem_singleton,not_or] at hs
    rw [hmk v hs.2] at hv
    exact h.ring v hv hs.1
  · rw [hst,List.mem_append,List.mem_singleton] at hy
    rcases List.mem_cons.1 hx with rfl | hx2
    · rcases hy with hy | rfl
      · have hp:=h.pos y hy
        rw [hmn,hmk y (hne y hp)] at hxy
        have:=h.le y;omega
      · exact .refl _
    · rcases hy with hy | rfl
      · have hp:=h.pos y hy
        have hpx:=h.pos x (h.gray x hx2)
        rw [hmk x (hne x hpx),hmk y (hne y hp)] at hxy
        exact h.reach x hx2 y hy hxy
      · exact hG x hx2
  · rw [hst,List.mem_append,List.mem_singleton] at hy
    rcases hy with hy | rfl
    · obtain ⟨x,hx,hxy,hp⟩:=h.back y hy
      have hpx:=h.pos x (h.gray x hx)
      refine ⟨x,List.mem_cons_of_mem _ hx,?_,hp⟩
      rw [hmk x (hne x hpx),hmk y (hne y (h.pos y hy))]
      exact hxy
    · exact ⟨y,List.mem_cons_self,Nat.le_refl _,.refl _⟩
  · by_cases e:v=n
    · subst e;rw [hmn];exact ⟨by omega,.refl _⟩
    · rw [hmk v e] at hv';omega
  · rw [hmn];show updN s.low n (s.next+1) n≤_;rw [updN_same];exact Nat.le_refl _
  · rw [hmn];exact updN_same _ _ _
theorem Inv.low {s:Srch} {G:List Nat} (h:Inv E s G) (l:Nat→Nat):Inv E { s with low:=l } G :=
  ⟨h.lt,h.le,h.inj,h.cnt,h.sorted,h.pos,h.gray,h.black,h.done,h.ring,h.reach,h.back⟩
section
variable {s t:Srch} {G:List Nat} {n:Nat} {ds:Nat→Prop}
theorem LI.old (h:LI E s G n t ds) {z:Nat} (hz:z∈s.stack):0<s.mark z∧t.mark z=s.mark z∧t.mark z<t.mark n:=by
  have h1:=h.was.pos z hz
  have h2:=h.ext.mark_old z h1
  have h3:=h.was.le z
  refine ⟨h1,h2,?_⟩
  rw [h2,h.nmark]
  omega
theorem LI.new (h:LI E s G n t ds) {new:List Nat} (hst:t.stack=s.stack++n::new) {y:Nat} (hy:y∈n::new):t.mark n≤t.mark y:=by
  have h1:=h.inv.sorted
  rw [hst,List.pairwise_append] at h1
  rcases List.mem_cons.1 hy with rfl | hy
  · exact Nat.le_refl _
  · exact Nat.le_of_lt ((List.pairwise_cons.1 h1.2.1).1 y hy)
theorem LI.visit {t':Srch} {d:Nat} (h:LI E s G n t ds) (hd0:t.mark d=0) (he:E n d) (hp:Post E t t' d (n::G)) :
    LI E s G n { t' with low:=updN t'.low n (min (t'.low n) (t'.low d)) } (fun x=>ds x∨x=d):=by
  have hn0:0<t.mark n:=by rw [h.nmark];omega
  have hmn:t'.mark n=t.mark n:=hp.ext.mark_old n hn0
  have hln:t'.low n=t.low n:=hp.ext.low_old n hn0
  have hmd:=hp.ext.fresh d hd0 hp.mine
  have hnn:t.mark n≤t.next:=h.inv.le n
  obtain ⟨new,hst,hnew⟩:=h.stack
  obtain ⟨newd,hst',hnew'⟩:=hp.stack
  have hlow2:(updN t'.low n (min (t'.low n) (t'.low d))) n=min (t.low n) (t'.low d):=by rw [updN_same,hln]
  refine ⟨h.was,h.white,hp.inv.low _,⟨fun v hv => ?_,fun v hv => ?_,fun v hv hv' => ?_,Nat.le_trans h.ext.next hp.ext.next⟩,by rw [← h.nmark];exact hmn,?_,?_,⟨new++newd,?_,fun y hy z hz hyz => ?_⟩,fun x hx => ?_⟩
  · have h1:=h.ext.mark_old v hv
    rw [hp.ext.mark_old v (by omega)];exact h1
  · have h1:=h.ext.mark_old v hv
    have hvn:v≠n:=fun e=>by subst e;rw [h.white] at hv;omega
    show updN t'.low n _ v=_
    rw [updN_other _ _ hvn,hp.ext.low_old v (by omega)]
    exact h.ext.low_old v hv
  · rcases Nat.eq_zero_or_pos (t.mark v) with h0 | h0
    · have h1:=hp.ext.fresh v h0 hv'
      have h2:=h.ext.next
      exact ⟨by show s.next<t'.mark v;omega,Path.head he h1.2⟩
    · have h1:=hp.ext.mark_old v h0
      have h2:=h.ext.fresh v hv h0
      exact ⟨by show s.next<t'.mark v;rw [h1];exact h2.1,h2.2⟩
  · show updN t'.low n _ n≤t'.mark n
    rw [hlow2,hmn]
    exact Nat.le_trans (Nat.min_le_left _ _) h.low_le
  · show updN t'.low n _ n=t'.mark n ∨ ∃ z∈s.stack,t'.mark z=updN t'.low n _ n∧Path E n z
    rw [hlow2,hmn]
    by_cases hle:t.low n≤t'.low d
    · rw [Nat.min_eq_left hle]
      rcases h.low_or with h1 | ⟨z,hz,h1,h2⟩
      · exact .inl h1
      · have h3:=h.old hz
        exact .inr ⟨z,hz,by rw [hp.ext.mark_old z (by omega)];exact h1,h2⟩
    · rw [Nat.min_eq_right (by omega)]
      have hll:=h.low_le
      rcases hp.low_or with h1 | ⟨z,hz,h1,h2⟩
      · omega
      · refine .inr ⟨z,?_,h1,Path.head he h2⟩
        have hz':=hz
        rw [hst] at hz'
        rcases List.mem_append.1 hz' with h3 | h3
        · exact h3
        · have h4:=h.new hst h3
          have h5:=hp.ext.mark_old z (h.inv.pos z hz)
          omega
  · show t'.stack=_
    rw [hst',hst]
    simp
  · show updN t'.low n _ n≤t'.mark z
    rw [hlow2]
    have h3:=h.old hz
    have h4:=hp.ext.mark_old z (by omega)
    rcases List.mem_append.1 hy with hy | hy
    · have:=hnew y hy z hz hyz
      rw [h4]
      exact Nat.le_trans (Nat.min_le_left _ _) this
    · have:=hnew' y hy z (by rw [hst];exact List.mem_append_left _ hz) hyz
      exact Nat.le_trans (Nat.min_le_right _ _) this
  · show 0<t'.mark x∧(x∈s.stack→updN t'.low n _ n≤t'.mark x)
    rw [hlow2]
    rcases hx with hx | rfl
    · have h1:=h.proc x hx
      have h2:=hp.ext.mark_old x h1.1
      rw [h2]
      exact ⟨h1.1,fun hs=>Nat.le_trans (Nat.min_le_left _ _) (h1.2 hs)⟩
    · exact ⟨hp.mine,fun hs=>by have:=h.old hs;omega⟩
theorem LI.on {d:Nat} (h:LI E s G n t ds) (hd:d∈t.stack) (he:E n d) :
    LI E s G n { t with low:=updN t.low n (min (t.low n) (t.mark d)) } (fun x=>ds x∨x=d):=by
  obtain ⟨new,hst,hnew⟩:=h.stack
  have hlow2:(updN t.low n (min (t.low n) (t.mark d))) n=min (t.low n) (t.mark d):=updN_same _ _ _
  refine ⟨h.was,h.white,h.inv.low _,⟨h.ext.mark_old,fun v hv => ?_,h.ext.fresh,h.ext.next⟩,h.nmark,?_,?_,⟨new,hst,fun y hy z hz hyz => ?_⟩,fun x hx => ?_⟩
  · have hvn:v≠n:=fun e=>by subst e;rw [h.white] at hv;omega
    show updN t.low n _ v=_
    rw [updN_other _ _ hvn]
    exact h.ext.low_old v hv
  · show updN t.low n _ n≤t.mark n
    rw [hlow2]
    exact Nat.le_trans (Nat.min_le_left _ _) h.low_le
  · show updN t.low n _ n=t.mark n ∨ ∃ z∈s.stack,t.mark z=updN t.low n _ n∧Path E n z
    rw [hlow2]
    by_cases hle:t.low n≤t.mark d
    · rw [Nat.min_eq_left hle];exact h.low_or
    · rw [Nat.min_eq_right (by omega)]
      have hll:=h.low_le
      refine .inr ⟨d,?_,rfl,Path.one he⟩
      have hd':=hd
      rw [hst] at hd'
      rcases List.mem_append.1 hd' with h3 | h3
      · exact h3
      · have h4:=h.new hst h3
        omega
  · show updN t.low n _ n≤t.mark z
    rw [hlow2]
    exact Nat.le_trans (Nat.min_le_left _ _) (hnew y hy z hz hyz)
  · show 0<t.mark x∧(x∈s.stack→updN t.low n _ n≤t.mark x)
    rw [hlow2]
    rcases hx with hx | rfl
    · have h1:=h.proc x hx
      exact ⟨h1.1,fun hs=>Nat.le_trans (Nat.min_le_left _ _) (h1.2 hs)⟩
    · exact ⟨h.inv.pos x hd,fun _=>Nat.min_le_right _ _⟩
theorem LI.skip {d:Nat} (h:LI E s G n t ds) (hm:0<t.mark d) (hd:d∉t.stack):LI E s G n t (fun x=>ds x∨x=d):=by
  obtain ⟨new,hst,hnew⟩:=h.stack
  refine ⟨h.was,h.white,h.inv,h.ext,h.nmark,h.low_le,h.low_or,h.stack,fun x hx => ?_⟩
  rcases hx with hx | rfl
  · exact h.proc x hx
  · exact ⟨hm,fun hs=>absurd (by rw [hst];exact List.mem_append_left _ hs) hd⟩
theorem LI.keep (h:LI E s G n t ds) (hall : ∀ d,E n d→ds d) (hlow:t.low n≠t.mark n):Post E s t n G:=by
  obtain ⟨new,hst,hnew⟩:=h.stack
  have hlt:t.low n<t.mark n:=Nat.lt_of_le_of_ne h.low_le hlow
  obtain ⟨z,hz,hm,hp⟩ : ∃ z∈s.stack,t.mark z=t.low n∧Path E n z:=by
    rcases h.low_or with h1 | h1
    · exact absurd h1 hlow
    · exact h1
  refine ⟨⟨h.inv.lt,h.inv.le,h.inv.inj,h.inv.cnt,h.inv.sorted,h.inv.pos,fun g hg=>h.inv.gray g (List.mem_cons_of_mem _ hg),fun v w hv hg hvw => ?_,h.inv.done,h.inv.ring,fun x hx=>h.inv.reach x (List.mem_cons_of_mem _ hx),fun y hy => ?_⟩,h.ext,by rw [h.nmark];omega,h.low_le,h.low_or,⟨n::new,hst,fun y hy z hz hyz => ?_⟩⟩
  · by_cases e:v=n
    · subst e;exact (h.proc w (hall w hvw)).1
    · exact h.inv.black v w hv (by simp only [List.mem_cons,not_or];exact ⟨e,hg⟩) hvw
  · obtain ⟨x,hx,hxy,p⟩:=h.inv.back y hy
    rcases List.mem_cons.1 hx with rfl | hx
    · obtain ⟨x',hx',hxz,p'⟩:=h.was.back z hz
      have h1:=h.old hz
      have h2:=h.old (h.was.gray x' hx')
      exact ⟨x',hx',by omega,(p.trans hp).trans p'⟩
    · exact ⟨x,hx,hxy,p⟩
  · rcases List.mem_cons.1 hy with rfl | hy
    · exact (h.proc z (hall z hyz)).2 hz
    · exact hnew y hy z hz hyz
theorem LI.pop (h:LI E s G n t ds) (hall : ∀ d,E n d→ds d) (hlow:t.low n=t.mark n) {new:List Nat} (hst:t.stack=s.stack++n::new) {r:Nat} {ring':Nat→Nat} (hr1 : ∀ v∈n::new,ring' v=r)
    (hr2 : ∀ v,v∉n::new→ring' v=t.ring v) (hmem:r∈n::new) (hmin : ∀ v∈n::new,r≤v):Post E s { t with ring:=ring',stack:=s.stack } n G:=by
  obtain ⟨new2,hst2,hnew⟩:=h.stack
  have e2:new2=new:=by
    rw [hst] at hst2
    have:=List.append_cancel_left hst2
    simp only [List.cons.injEq,true_and] at this
    exact this.symm
  subst e2
  have hC : ∀ y∈n::new2,y∈t.stack:=fun y hy=>by rw [hst];exact List.mem_append_right _ hy
  have hCn : ∀ y∈n::new2,t.mark n≤t.mark y:=fun y hy=>h.new hst hy
  have hS : ∀ y∈s.stack,y∈t.stack:=fun y hy=>by rw [hst];exact List.mem_append_left _ hy
  have hdis : ∀ y∈n::new2,y∉s.stack:=fun y hy hs=>by have:=hCn y hy;have:=h.old hs;omega
  have hfrom : ∀ y∈n::new2,Path E n y:=fun y hy=>h.inv.reach n List.mem_cons_self y (hC y hy) (hCn y hy)
  have hto : ∀ y∈n::new2,Path E y n:=fun y hy=>by
    obtain ⟨x,hx,hxy,p⟩:=h.inv.back y (hC y hy)
    refine p.trans (h.inv.reach x hx n (hC n List.mem_cons_self) ?_)
    rcases List.mem_cons.1 hx with rfl | hx
    · exact Nat.le_refl _
    · have:=h.old (h.was.gray x hx);omega
  have hout : ∀ y∈n::new2,∀ w,E y w→0<t.mark w∧(w∈n::new2∨w∉t.stack):=by
    intro y hy w hyw
    have hw0:0<t.mark w:=by
      rcases List.mem_cons.1 hy with rfl | hy'
      · exact (h.proc w (hall w hyw)).1
      · refine h.inv.black y w (h.inv.pos y (hC y hy)) ?_ hyw
        simp only [List.mem_cons,not_or]
        refine ⟨fun e => ?_,fun hg=>hdis y hy (h.was.gray y hg)⟩
        subst e
        have h1:=h.inv.sorted
        rw [hst,List.pairwise_append] at h1
        exact absurd ((List.pairwise_cons.1 h1.2.1).1 y hy') (Nat.lt_irrefl _)
    refine ⟨hw0,?_⟩
    by_cases hws:w∈t.stack
    · left
      have hws':=hws
      rw [hst] at hws'
      rcases List.mem_append.1 hws' with h3 | h3
      · have h4:=h.old h3
        have h5:t.low n≤t.mark w:=by
          rcases List.mem_cons.1 hy with rfl | hy'
          · exact (h.proc w (hall w hyw)).2 h3
          · exact hnew y hy' w h3 hyw
        omega
      · exact h3
    · exact .inr hws
  have hdone : ∀ a b,(0<t.mark a∧a∉t.stack)→E a b→(0<t.mark b∧b∉t.stack):=fun a b ⟨h1,h2⟩ hab =>
    ⟨h.inv.black a b h1 (fun hg=>h2 (h.inv.gray a hg)) hab,h.inv.done a b h1 h2 hab⟩
  have hclosed : ∀ a b,(0<t.mark a∧(a∈n::new2∨a∉t.stack))→E a b→(0<t.mark b∧(b∈n::new2∨b∉t.stack)):=by
    rintro a b ⟨h1,h2 | h2⟩ hab
    · exact hout a h2 b hab
    · have:=hdone a b ⟨h1,h2⟩ hab
      exact ⟨this.1,.inr this.2⟩
  have hnot : ∀ v,v∉s.stack→v∉n::new2→v∉t.stack:=fun v h1 h2 h3=>by
    rw [hst] at h3
    rcases List.mem_append.1 h3 with h3 | h3
    · exact h1 h3
    · exact h2 h3
  have hsorted:s.stack.Pairwise (fun a b=>t.mark a<t.mark b):=by
    have h1:=h.inv.sorted
    rw [hst,List.pairwise_append] at h1
    exact h1.1
  refine ⟨⟨h.inv.lt,h.inv.le,h.inv.inj,h.inv.cnt,hsorted,fun v hv=>h.inv.pos v (hS v hv),h.was.gray,fun v w hv hg hvw => ?_,fun v w hv hs hvw => ?_,fun v hv hs => ?_,fun x hx y hy=>h.inv.reach x (List.mem_cons_of_mem _ hx) y (hS y hy),fun y hy => ?_⟩,
    ⟨h.ext.mark_old,h.ext.low_old,h.ext.fresh,h.ext.next⟩,by show 0<t.mark n;rw [h.nmark];omega,h.low_le,.inl hlow,⟨[],by simp,by simp⟩⟩
  · by_cases e:v=n
    · subst e;exact (h.proc w (hall w hvw)).1
    · exact h.inv.black v w hv (by simp only [List.mem_cons,not_or];exact ⟨e,hg⟩) hvw
  · by_cases hvC:v∈n::new2
    · rcases (hout v hvC w hvw).2 with h1 | h1
      · exact hdis w h1
      · exact fun h2=>h1 (hS w h2)
    · have:=h.inv.done v w hv (hnot v hs hvC) hvw
      exact fun h2=>this (hS w h2)
  · by_cases hvC:v∈n::new2
    · show Least E v (ring' v)
      rw [hr1 v hvC]
      refine ⟨(hto v hvC).trans (hfrom r hmem),(hto r hmem).trans (hfrom v hvC),fun w hvw hwv=>hmin w ?_⟩
      have h1:=Path.closed (S:=fun a=>0<t.mark a∧(a∈n::new2∨a∉t.stack)) hclosed hvw ⟨hv,.inl hvC⟩
      rcases h1.2 with h2 | h2
      · exact h2
      · have h3:=Path.closed (S:=fun a=>0<t.mark a∧a∉t.stack) hdone hwv ⟨h1.1,h2⟩
        exact absurd (hC v hvC) h3.2
    · show Least E v (ring' v)
      rw [hr2 v hvC]
      exact h.inv.ring v hv (hnot v hs hvC)
  · obtain ⟨x,hx,hxy,p⟩:=h.was.back y hy
    have h1:=h.old hy
    have h2:=h.old (h.was.gray x hx)
    exact ⟨x,hx,by show t.mark x≤t.mark y;omega,p⟩
end
theorem Inv.empty {s:Srch} (h1 : ∀ v,s.mark v=0) (h2:s.stack=[]) (h3:s.next=0):Inv E s []:=by
  refine ⟨fun v hv => ?_,fun v => ?_,fun u v _ hu => ?_,?_,(by rw [h2];exact .nil),fun v hv => ?_,fun g hg=>(by cases hg),fun v w hv => ?_,fun v w hv => ?_,fun v hv => ?_,fun x hx=>(by cases hx),fun y hy => ?_⟩
  · rw [h1] at hv;omega
  · rw [h1];omega
  · rw [h1] at hu;omega
  · rw [h3]
    have:wh s.mark≤32:=by
      have:=List.countP_le_length (p:=fun i=>s.mark i==0) (l:=List.range 32)
      rw [List.length_range] at this
      exact this
    omega
  · rw [h2] at hv;cases hv
  · rw [h1] at hv;omega
  · rw [h1] at hv;omega
  · rw [h1] at hv;omega
  · rw [h2] at hy;cases hy
theorem Post.final {s s':Srch} {n:Nat} (h:Post E s s' n []) (h1 : ∀ v,s.mark v=0):(∀ v,0<s'.mark v↔Path E n v) ∧ ∀ v,Path E n v→Least E v (s'.ring v):=by
  have hst : ∀ y,y∉s'.stack:=fun y hy=>by obtain ⟨x,hx,_⟩:=h.inv.back y hy;cases hx
  have hp : ∀ v,Path E n v→0<s'.mark v:=fun v hv=>Path.closed (S:=fun a=>0<s'.mark a) (fun a b ha hab=>h.inv.black a b ha (by simp) hab) hv h.mine
  exact ⟨fun v=>⟨fun hv=>(h.ext.fresh v (h1 v) hv).2,hp v⟩,fun v hv=>h.inv.ring v (hp v hv) (hst v)⟩
end
end Go.Proofs.Yteilffoclpgijaa
namespace Go.Proofs.Yteilffoclpgijaa
set_option linter.unusedVariables false
theorem nodup_len : ∀ (n:Nat) (l:List Nat),l.Nodup→(∀ x∈l,x<n)→l.length≤n
  | 0,l,_,h=>by
    cases l with
    | nil=>simp
    | cons a t=>exact absurd (h a List.mem_cons_self) (Nat.not_lt_zero _)
  | n+1,l,hn,h=>by
    have h1:=nodup_len n (l.filter (· != n)) (hn.filter _) (fun x hx=>by
      rw [List.mem_filter] at hx
      have:=h x hx.1
      have h2:x≠n:=by simpa using hx.2
      omega)
    have h2:l.length≤(l.filter (· != n)).length+1:=by
      clear h1 h
      induction l with
      | nil=>simp
      | cons a t ih =>
        rw [List.nodup_cons] at hn
        have ih:=ih hn.2
        by_cases e:a=n
        · subst e
          have:t.filter (· != a)=t:=List.filter_eq_self.2 fun x hx=>by simp;rintro rfl;exact hn.1 hx
          simp [this]
        · rw [List.filter_cons_of_pos (by simpa using e)]
          simp only [List.length_cons]
          omega
    omega
theorem countP_lt {p q:Nat→Bool} (h : ∀ k,q k=true→p k=true) {x:Nat} (hp:p x=true) (hq:q x=false) : ∀ (l:List Nat),x∈l→l.countP q<l.countP p:=by
  intro l
  induction l with
  | nil=>intro h;cases h
  | cons a t ih =>
    intro hm
    rw [List.countP_cons,List.countP_cons]
    have hle:=countP_le h t
    rcases List.mem_cons.1 hm with rfl | hm
    · rw [hp,hq];simp;omega
    · have:=ih hm
      cases hqa:q a with
      | false=>simp;omega
      | true=>rw [h a hqa];simp;omega
def candO (P:Nat→Nat→Bool) (n:Nat) (out:List Nat) (m:Nat):Bool:=P n m&&(!out.contains m&&(List.range 32).all fun d => !P m d||(P d m||out.contains d))
def nextO (P:Nat→Nat→Bool) (n:Nat) (out:List Nat):Option Nat:=(List.range 32).find? (candO P n out)
def ringO (P:Nat→Nat→Bool) (c:Nat):List Nat:=(List.range 32).filter fun m=>P c m&&P m c
def orderF (P:Nat→Nat→Bool) (n:Nat):Nat→List Nat→List Nat
  | 0,out=>out
  | k+1,out=>match nextO P n out with
    | none=>out
    | some c=>orderF P n k (out++ringO P c)
def orderS (P:Nat→Nat→Bool) (n:Nat):List Nat:=orderF P n 32 []
structure Pre (P:Nat→Nat→Bool):Prop where
  refl : ∀ a,a<32→P a a=true
  trans : ∀ a b c,P a b=true→P b c=true→P a c=true
  lt : ∀ a b,a<32→P a b=true→b<32
structure OKO (P:Nat→Nat→Bool) (n:Nat) (out:List Nat):Prop where
  nodup:out.Nodup
  lt : ∀ m∈out,m<32
  sub : ∀ m∈out,P n m=true
  dc : ∀ m∈out,∀ d,P m d=true→d∈out
section
variable {P:Nat→Nat→Bool} {n:Nat} {out:List Nat}
theorem candO_iff {m:Nat}:candO P n out m=true↔P n m=true∧m∉out ∧ ∀ d,d<32→P m d=true→P d m=true∨d∈out:=by
  simp only [candO,Bool.and_eq_true,Bool.not_eq_true',List.all_eq_true,List.mem_range,Bool.or_eq_true,List.contains_eq_mem,decide_eq_true_eq,decide_eq_false_iff_not]
  constructor
  · rintro ⟨h1,h2,h3⟩
    refine ⟨h1,h2,fun d hd hm => ?_⟩
    rcases h3 d hd with h | h
    · rw [hm] at h;cases h
    · exact h
  · rintro ⟨h1,h2,h3⟩
    refine ⟨h1,h2,fun d hd => ?_⟩
    cases hm:P m d with
    | false=>exact .inl rfl
    | true=>exact .inr (h3 d hd hm)
theorem nextO_some {c:Nat} (h:nextO P n out=some c):c<32∧candO P n out c=true ∧ ∀ m,m<c→candO P n out m=false:=by
  unfold nextO at h
  have h1:=List.find?_some h
  have h2:=List.mem_of_find?_eq_some h
  refine ⟨List.mem_range.1 h2,h1,fun m hm => ?_⟩
  rw [List.find?_range_eq_some] at h
  have:=h.2.2 m hm
  simpa using this
theorem nextO_none:nextO P n out=none ↔ ∀ m,m<32→candO P n out m=false:=by
  unfold nextO
  rw [List.find?_eq_none]
  simp
theorem mem_ringO {c m:Nat}:m∈ringO P c↔m<32∧P c m=true∧P m c=true:=by
  simp [ringO,List.mem_filter,List.mem_range]
theorem OKO.nil:OKO P n []:=⟨List.nodup_nil,by simp,by simp,by simp⟩
theorem OKO.step (hP:Pre P) (hn:n<32) (h:OKO P n out) {c:Nat} (hc:nextO P n out=some c):OKO P n (out++ringO P c):=by
  obtain ⟨hc32,hcand,_⟩:=nextO_some hc
  rw [candO_iff] at hcand
  obtain ⟨h1,h2,h3⟩:=hcand
  refine ⟨?_,fun m hm => ?_,fun m hm => ?_,fun m hm d hd => ?_⟩
  · rw [List.nodup_append]
    refine ⟨h.nodup,List.nodup_range.filter _,fun a ha b hb => ?_⟩
    rintro rfl
    exact h2 (h.dc a ha c (mem_ringO.1 hb).2.2)
  · rcases List.mem_append.1 hm with hm | hm
    · exact h.lt m hm
    · exact (mem_ringO.1 hm).1
  · rcases List.mem_append.1 hm with hm | hm
    · exact h.sub m hm
    · exact hP.trans _ _ _ h1 (mem_ringO.1 hm).2.1
  · rcases List.mem_append.1 hm with hm | hm
    · exact List.mem_append_left _ (h.dc m hm d hd)
    · obtain ⟨hm32,hcm,hmc⟩:=mem_ringO.1 hm
      have hcd:=hP.trans _ _ _ hcm hd
      have hd32:=hP.lt m d hm32 hd
      rcases h3 d hd32 hcd with h4 | h4
      · exact List.mem_append_right _ (mem_ringO.2 ⟨hd32,hcd,h4⟩)
      · exact List.mem_append_left _ h4
theorem ringO_self (hP:Pre P) {c:Nat} (hc:c<32):c∈ringO P c:=mem_ringO.2 ⟨hc,hP.refl c hc,hP.refl c hc⟩
theorem OKO.len (h:OKO P n out):out.length≤32:=nodup_len 32 out h.nodup h.lt
theorem OKO.full (h:OKO P n out) (hl:32≤out.length):nextO P n out=none:=by
  rw [nextO_none]
  intro m hm
  cases hc:candO P n out m with
  | false=>rfl
  | true =>
    rw [candO_iff] at hc
    have:=nodup_len 32 (m::out) (List.nodup_cons.2 ⟨hc.2.1,h.nodup⟩) (fun x hx=>by
      rcases List.mem_cons.1 hx with rfl | hx
      · exact hm
      · exact h.lt x hx)
    simp only [List.length_cons] at this
    omega
theorem OKO.more (hP:Pre P) (hn:n<32) (h:OKO P n out) : ∀ (k m:Nat),(List.range 32).countP (P m)≤k→P n m=true→m∉out→nextO P n out≠none
  | k,m,hk,hm,hmo=>by
    intro h0
    have hm32:=hP.lt n m hn hm
    have hno:=nextO_none.1 h0 m hm32
    by_cases hall : ∀ d,d<32→P m d=true→P d m=true∨d∈out
    · rw [candO_iff.2 ⟨hm,hmo,hall⟩] at hno
      cases hno
    · have hex : ∃ d,d<32∧P m d=true∧P d m=false∧d∉out:=by
        refine Classical.byContradiction fun hne=>hall fun d hd hmd => ?_
        by_cases h1:d∈out
        · exact .inr h1
        · cases h2:P d m with
          | true=>exact .inl rfl
          | false=>exact absurd ⟨d,hd,hmd,h2,h1⟩ hne
      obtain ⟨d,hd,hmd,hdm,hdo⟩:=hex
      have hlt:(List.range 32).countP (P d)<(List.range 32).countP (P m) :=
        countP_lt (p:=P m) (q:=P d) (fun x hx=>hP.trans _ _ x hmd hx) (hP.refl m hm32) hdm _ (List.mem_range.2 hm32)
      cases k with
      | zero=>omega
      | succ k=>exact OKO.more hP hn h k d (by omega) (hP.trans _ _ _ hm hmd) hdo h0
theorem orderF_end (hP:Pre P) (hn:n<32) : ∀ (k:Nat) (out:List Nat),OKO P n out→32≤k+out.length→OKO P n (orderF P n k out)∧nextO P n (orderF P n k out)=none
  | 0,out,h,hk=>⟨h,h.full (by omega)⟩
  | k+1,out,h,hk=>by
    unfold orderF
    cases hc:nextO P n out with
    | none=>exact ⟨h,hc⟩
    | some c =>
      refine orderF_end hP hn k _ (h.step hP hn hc) ?_
      have:=List.length_pos_of_mem (ringO_self hP (nextO_some hc).1)
      rw [List.length_append]
      omega
theorem orderS_mem (hP:Pre P) (hn:n<32) (m:Nat):m∈orderS P n↔P n m=true:=by
  obtain ⟨h1,h2⟩:=orderF_end hP hn 32 [] OKO.nil (by simp)
  refine ⟨h1.sub m,fun hm => ?_⟩
  refine Classical.byContradiction fun hno => ?_
  exact h1.more hP hn _ m (Nat.le_refl _) hm hno h2
theorem orderS_ok (hP:Pre P) (hn:n<32):OKO P n (orderS P n):=(orderF_end hP hn 32 [] OKO.nil (by simp)).1
end
end Go.Proofs.Yteilffoclpgijaa
namespace Go.Proofs.Yteilffoclpgijaa
open Go.RowKit
open Rep (rep)
section
variable {α : Type} {n:Nat} {v:Vector α n} {k:Nat}
theorem idxV_ok (hk:k<n):idxV v (k:Int)=some v[k]:=by
  unfold idxV
  rw [if_pos (Int.natCast_nonneg k)]
  simp [hk]
theorem setV_ok {x : α} (hk:k<n):setV v (k:Int) x=some (v.set k x):=by
  unfold setV
  rw [if_pos ⟨Int.natCast_nonneg k,by omega⟩]
  congr 1
  refine Vector.ext fun j hj => ?_
  simp [Vector.getElem_setIfInBounds,Vector.getElem_set]
end
def bat (v:Vector Bool 32) (k:Nat):Bool:=v[k]?.getD false
theorem bat_lt {v:Vector Bool 32} {k:Nat} (hk:k<32):v[k]=bat v k:=by simp [bat,hk]
theorem idxB {v:Vector Bool 32} {k:Nat} (hk:k<32):idxV v (k:Int)=some (bat v k):=by rw [idxV_ok hk,bat_lt hk]
theorem bat_set {v:Vector Bool 32} {k j:Nat} {x:Bool} (hk:k<32):bat (v.set k x) j=if k=j then x else bat v j:=by
  unfold bat
  by_cases hj:j<32
  · simp only [Vector.getElem?_set]
    by_cases e:k=j
    · subst e;simp
    · simp [e]
  · have hkj:k≠j:=by omega
    simp [hj,hkj]
theorem bat_ext {v u:Vector Bool 32} (h : ∀ k,k<32→bat v k=bat u k):v=u:=by
  refine Vector.ext fun k hk => ?_
  rw [bat_lt hk,bat_lt hk]
  exact h k hk
theorem bat_zero (k:Nat):bat (Zr.zd:Vector Bool 32) k=false:=by
  show bat (Vector.replicate 32 false) k=false
  unfold bat
  by_cases hk:k<32<;>simp [hk]
def cz (v:Vector Bool 32):Nat:=(List.range 32).countP fun k => !bat v k
theorem cz_set {v:Vector Bool 32} {k:Nat} (hk:k<32) (h:bat v k=false):cz v=cz (v.set k true)+1:=by
  unfold cz
  refine countP_turn (n:=k) (by simp [h]) (by rw [bat_set hk,if_pos rfl];rfl) (fun j hj => ?_) _ List.nodup_range (List.mem_range.2 hk)
  rw [bat_set hk,if_neg (fun e=>hj e.symm)]
theorem cz_le (v:Vector Bool 32):cz v≤32:=by
  unfold cz
  have:=List.countP_le_length (p:=fun k => !bat v k) (l:=List.range 32)
  rw [List.length_range] at this
  exact this
theorem cz_mono {v u:Vector Bool 32} (h : ∀ k,bat v k=true→bat u k=true):cz u≤cz v:=by
  unfold cz
  refine countP_le (fun k hk => ?_) _
  cases hv:bat v k with
  | false=>rfl
  | true=>rw [h k hv] at hk;cases hk
def depsAt (g:GGraph) (a:Nat):List Int:=if h:a<32 then g.deps[a] else []
theorem idxD {g:GGraph} {a:Nat} (h:a<32):idxV g.deps (a:Int)=some (depsAt g a):=by rw [idxV_ok h];simp [depsAt,h]
def Edge (g:GGraph) (a b:Nat):Prop:=a<32∧bat g.known a=true∧(b:Int)∈depsAt g a∧b<32
def Small (g:GGraph) (N:Nat):Prop := ∀ a,(depsAt g a).length<N∧(depsAt g a).length≤17592186043904
theorem path_lt {g:GGraph} {a b:Nat} (h:Path (Edge g) a b) (ha:a<32):b<32:=by
  cases h with
  | refl=>exact ha
  | tail _ e=>exact e.2.2.2
theorem len_bytes {l:List Int} (h:l.length≤100):(l.length+1)*Rep.bytes Int≤140737488351232:=by
  have:Rep.bytes Int=8:=rfl
  rw [this];omega
theorem wrs (k:Nat) (h:k≤17592186043904):IntKind.wrap .i64 ((k:Int)+1)=((k+1:Nat):Int):=by rw [wr64 (by omega) (by omega)];omega
theorem int_cases (x:Int):(∃ b:Nat,b<32∧x=b) ∨ ¬ (0≤x∧x<32):=by
  by_cases h:0≤x∧x<32
  · exact .inl ⟨x.toNat,by omega,by omega⟩
  · exact .inr h
theorem drop_mem {α : Type} {l:List α} {k:Nat} (hk:k<l.length):l.drop k=l[k]::l.drop (k+1):=List.drop_eq_getElem_cons hk
structure Fed (ds:List Int) (d:Vector Bool 32) (l:List Int) (d':Vector Bool 32) (l':List Int):Prop where
  keep : ∀ k,bat d k=true→bat d' k=true
  all : ∀ b:Nat,b<32→(b:Int)∈ds→bat d' b=true
  only : ∀ k,bat d' k=true→bat d k=true∨((k:Int)∈ds∧(k:Int)∈l')
  old : ∀ x,x∈l→x∈l'
  new : ∀ x,x∈l'→x∈l ∨ ∃ b:Nat,b<32∧x=b∧(b:Int)∈ds∧bat d' b=true
  cnt:l'.length+cz d'=l.length+cz d
theorem Fed.refl {d:Vector Bool 32} {l:List Int}:Fed [] d l d l:=⟨fun _ h=>h,fun _ _ h=>by simp at h,fun _ h => .inl h,fun _ h=>h,fun _ h => .inl h,rfl⟩
theorem Fed.skip {x:Int} {ds:List Int} {d d':Vector Bool 32} {l l':List Int} (hx : ∀ b:Nat,b<32→x=b→bat d b=true) (h:Fed ds d l d' l'):Fed (x::ds) d l d' l':=by
  refine ⟨h.keep,fun b hb hm => ?_,fun k hk => ?_,h.old,fun y hy => ?_,h.cnt⟩
  · rcases List.mem_cons.1 hm with e | hm
    · exact h.keep b (hx b hb e.symm)
    · exact h.all b hb hm
  · rcases h.only k hk with h1 | h1
    · exact .inl h1
    · exact .inr ⟨List.mem_cons_of_mem _ h1.1,h1.2⟩
  · rcases h.new y hy with h1 | ⟨b,h1,h2,h3,h4⟩
    · exact .inl h1
    · exact .inr ⟨b,h1,h2,List.mem_cons_of_mem _ h3,h4⟩
theorem Fed.push {a:Nat} {ds:List Int} {d d':Vector Bool 32} {l l':List Int} (ha:a<32) (hd:bat d a=false) (h:Fed ds (d.set a true) (l++[(a:Int)]) d' l'):Fed ((a:Int)::ds) d l d' l':=by
  have hset:bat (d.set a true) a=true:=by rw [bat_set ha,if_pos rfl]
  refine ⟨fun k hk=>h.keep k (by rw [bat_set ha];split<;>simp [hk]),fun b hb hm => ?_,fun k hk => ?_,fun y hy=>h.old y (List.mem_append_left _ hy),fun y hy => ?_,?_⟩
  · rcases List.mem_cons.1 hm with e | hm
    · have:b=a:=by omega
      subst this
      exact h.keep b hset
    · exact h.all b hb hm
  · rcases h.only k hk with h1 | h1
    · rw [bat_set ha] at h1
      by_cases e:a=k
      · subst e
        exact .inr ⟨List.mem_cons_self,h.old _ (by simp)⟩
      · rw [if_neg e] at h1
        exact .inl h1
    · exact .inr ⟨List.mem_cons_of_mem _ h1.1,h1.2⟩
  · rcases h.new y hy with h1 | ⟨b,h1,h2,h3,h4⟩
    · rcases List.mem_append.1 h1 with h1 | h1
      · exact .inl h1
      · rw [List.mem_singleton] at h1
        exact .inr ⟨a,ha,h1,List.mem_cons_self,h.keep a hset⟩
    · exact .inr ⟨b,h1,h2,List.mem_cons_of_mem _ h3,h4⟩
  · have h1:=h.cnt
    have h2:=cz_set ha hd
    rw [List.length_append] at h1
    simp only [List.length_cons,List.length_nil] at h1
    omega
theorem reach_l2_eq {rec:Vector Bool 32→List Int→Option (Vector Bool 32)} {ds:List Int} (hds:ds.length≤17592186043904) : ∀ (n m k:Nat) (d:Vector Bool 32) (l:List Int),ds.length=k+m→m<n→l.length+cz d≤100 →
    ∃ d' l',reach_l2 rec ds n d l k=rec d' l'∧Fed (ds.drop k) d l d' l'
  | 0,m,k,d,l,_,h,_=>absurd h (by omega)
  | n+1,0,k,d,l,hk,_,_=>⟨d,l,by rw [reach_l2,bif_f (dec_f (by omega))],by rw [List.drop_of_length_le (by omega)];exact Fed.refl⟩
  | n+1,m+1,k,d,l,hk,hn,hl=>by
    have hlt:k<ds.length:=by omega
    have ih:=fun d l h=>reach_l2_eq (rec:=rec) hds n m (k+1) d l (by omega) (by omega) h
    rw [reach_l2,bif_t (dec_t (by omega)),idx_nat,List.getElem?_eq_getElem hlt,some_bind,drop_mem hlt]
    simp only [reach_j3,reach_j2,wrs k (by omega)]
    generalize ds[k]=x
    rcases int_cases x with ⟨b,hb,rfl⟩ | hx
    · rw [bif_t (dec_t (by omega)),bif_t (dec_t (by omega)),inR_ok (by omega) (by omega),some_bind,idxB hb,some_bind]
      cases hd:bat d b with
      | true =>
        obtain ⟨d',l',h1,h2⟩:=ih d l hl
        exact ⟨d',l',by rw [← h1];rfl,h2.skip fun c _ e=>(show c=b by omega) ▸ hd⟩
      | false =>
        have hc:=cz_set hb hd
        obtain ⟨d',l',h1,h2⟩:=ih (d.set b true) (l++[(b:Int)]) (by simp;omega)
        refine ⟨d',l',?_,h2.push hb hd⟩
        simp only [Bool.not_false,cond_true,some_bind,setV_ok hb,app_ok (a:=l) (b:=[(b:Int)]) (len_bytes (show l.length≤100 by omega))]
        exact h1
    · obtain ⟨d',l',h1,h2⟩:=ih d l hl
      refine ⟨d',l',?_,h2.skip fun c hc e=>absurd (show 0≤x∧x<32 by omega) hx⟩
      by_cases h0:x≥0
      · rw [bif_t (dec_t h0),bif_f (dec_f (by omega))];exact h1
      · rw [bif_f (dec_f h0)];exact h1
structure Going (g:GGraph) (s:Nat) (d:Vector Bool 32) (l:List Int):Prop where
  first:bat d s=true
  path : ∀ k,bat d k=true→Path (Edge g) s k
  work : ∀ x∈l,∃ b:Nat,b<32∧x=b∧bat d b=true
  closed : ∀ a b,bat d a=true→(a:Int)∉l→Edge g a b→bat d b=true
theorem Going.fin {g:GGraph} {s:Nat} {d:Vector Bool 32} (h:Going g s d []) (k:Nat):bat d k=true↔Path (Edge g) s k :=
  ⟨h.path k,fun hp=>Path.closed (S:=fun a=>bat d a=true) (fun a b ha he=>h.closed a b ha (by simp) he) hp h.first⟩
open Classical in
noncomputable def reachV (g:GGraph) (s:Nat):Vector Bool 32:=Vector.ofFn fun k=>decide (Path (Edge g) s k.val)
theorem bat_reachV {g:GGraph} {s k:Nat} (hk:k<32):bat (reachV g s) k=true↔Path (Edge g) s k:=by
  unfold bat reachV
  simp [hk]
theorem reachV_of {g:GGraph} {s:Nat} {d:Vector Bool 32} (h : ∀ k,bat d k=true↔Path (Edge g) s k):d=reachV g s:=by
  refine bat_ext fun k hk => ?_
  rw [Bool.eq_iff_iff,h,bat_reachV hk]
theorem cutL_pop {l:List Int} (h:0<l.length):cutL l none (some ((l.length:Int)-1))=some l.dropLast:=by
  unfold cutL cutOk
  simp only [Option.getD_none,Option.getD_some]
  rw [if_pos (by omega)]
  simp only [Option.map_some,Option.some.injEq]
  rw [List.dropLast_eq_take,show ((0:Int)).toNat=0 from rfl,List.drop_zero]
  congr 1
  omega
theorem reach_l1_eq {fu N:Nat} {g:GGraph} (hg:Small g N) (hf:N≤fu) {s:Nat} : ∀ (n:Nat) (d:Vector Bool 32) (l:List Int),Going g s d l→l.length+cz d<n→l.length+cz d≤100→reach_l1 fu g n d l=some (reachV g s)
  | 0,d,l,_,h,_=>absurd h (by omega)
  | n+1,d,l,hG,hn,hl=>by
    rw [reach_l1]
    by_cases h0:l.length=0
    · have:l=[]:=List.length_eq_zero_iff.1 h0
      subst this
      rw [bif_f (dec_f (by simp)),some_bind,reachV_of hG.fin]
    · rw [bif_t (dec_t (by omega)),wr64 (by omega) (by omega),show ((l.length:Int)-1)=((l.length-1:Nat):Int) from by omega,idx_nat,List.getElem?_eq_getElem (by omega),some_bind,
        show (((l.length-1:Nat):Int))=(l.length:Int)-1 from by omega,cutL_pop (by omega),some_bind]
      have hlast:l=l.dropLast++[l[l.length-1]]:=by
        have h1:=List.dropLast_concat_getLast (l:=l) (by rintro rfl;simp at h0)
        rw [List.getLast_eq_getElem] at h1
        exact h1.symm
      obtain ⟨m,hm,hx,hdm⟩:=hG.work l[l.length-1] (List.getElem_mem _)
      rw [hx] at hlast ⊢
      generalize hl2:l.dropLast=l2 at hlast ⊢
      have hlen:l.length=l2.length+1:=by rw [hlast];simp
      have hmem : ∀ x,x∈l→x∈l2∨x=m:=fun x hx=>by
        rw [hlast] at hx
        rcases List.mem_append.1 hx with h | h
        · exact .inl h
        · exact .inr (by simpa using h)
      have hsub : ∀ x,x∈l2→x∈l:=fun x hx=>by rw [hlast];exact List.mem_append_left _ hx
      rw [inR_ok (by omega) (by omega),some_bind,idxB hm,some_bind]
      cases hk:bat g.known m with
      | false =>
        rw [bif_t (by rfl)]
        refine reach_l1_eq hg hf n d l2 ⟨hG.first,hG.path,fun x hx=>hG.work x (hsub x hx),fun a b ha hno he => ?_⟩ (by omega) (by omega)
        by_cases e:a=m
        · subst e;rw [he.2.1] at hk;cases hk
        · refine hG.closed a b ha (fun hal => ?_) he
          rcases hmem _ hal with h1 | h1
          · exact hno h1
          · omega
      | true =>
        rw [bif_f (by rfl),some_bind,idxD hm,some_bind]
        obtain ⟨d',l',h1,h2⟩:=reach_l2_eq (rec:=reach_l1 fu g n) (hg m).2 fu (depsAt g m).length 0 d l2 (by omega) (by have:=(hg m).1;omega) (by omega)
        have h1:reach_l2 (reach_l1 fu g n) (depsAt g m) fu d l2 0=reach_l1 fu g n d' l':=h1
        rw [h1]
        rw [List.drop_zero] at h2
        have hc:=h2.cnt
        refine reach_l1_eq hg hf n d' l' ⟨h2.keep _ hG.first,fun k hk' => ?_,fun x hx => ?_,fun a b ha hno he => ?_⟩ (by omega) (by omega)
        · rcases h2.only k hk' with h3 | ⟨h3,h4⟩
          · exact hG.path k h3
          · rcases h2.new k h4 with h5 | ⟨b,hb,e,_,_⟩
            · obtain ⟨b,hb,e,hd⟩:=hG.work _ (hsub _ h5)
              have:k=b:=by omega
              subst this
              exact hG.path k hd
            · have:k=b:=by omega
              subst this
              exact .tail (hG.path m hdm) ⟨hm,hk,h3,hb⟩
        · rcases h2.new x hx with h3 | ⟨b,hb,e,_,hd⟩
          · obtain ⟨b,hb,e,hd⟩:=hG.work x (hsub x h3)
            exact ⟨b,hb,e,h2.keep b hd⟩
          · exact ⟨b,hb,e,hd⟩
        · by_cases e:a=m
          · subst e;exact h2.all b he.2.2.2 he.2.2.1
          · rcases h2.only a ha with h3 | ⟨_,h3⟩
            · refine h2.keep b (hG.closed a b h3 (fun hal => ?_) he)
              rcases hmem _ hal with h4 | h4
              · exact hno (h2.old _ h4)
              · omega
            · exact absurd h3 hno
noncomputable def reachZ (g:GGraph) (x:Int):Vector Bool 32:=if 0≤x∧x<32 then reachV g x.toNat else Zr.zd
theorem start_going (g:GGraph) {s:Nat} (hs:s<32):Going g s ((Zr.zd:Vector Bool 32).set s true) [(s:Int)]:=by
  have h1 : ∀ k,bat ((Zr.zd:Vector Bool 32).set s true) k=true↔s=k:=fun k=>by
    rw [bat_set hs,bat_zero]
    by_cases e:s=k<;>simp [e]
  refine ⟨(h1 s).2 rfl,fun k hk => ?_,fun x hx => ?_,fun a b ha hno he => ?_⟩
  · rw [(h1 k).1 hk];exact .refl _
  · exact ⟨s,hs,by simpa using hx,(h1 s).2 rfl⟩
  · have:=(h1 a).1 ha
    subst this
    exact absurd (by simp) hno
theorem reachD_eq {fu N:Nat} {g:GGraph} (hg:Small g N) (hf:N+40≤fu) (x:Int):reachD fu g x=some (reachZ g x):=by
  unfold reachD reachZ
  rcases int_cases x with ⟨s,hs,rfl⟩ | hx
  · rw [bif_f (dec_f (by omega)),reach_j4,bif_f (dec_f (by omega)),if_pos (by omega),reach_j1,inR_ok (by omega) (by omega),some_bind,idxB hs,some_bind,setV_ok hs,some_bind,some_bind]
    have hc:=cz_le ((Zr.zd:Vector Bool 32).set s true)
    exact reach_l1_eq hg (by omega) fu _ _ (start_going g hs) (by simp;omega) (by simp;omega)
  · rw [if_neg hx]
    by_cases h0:x<0
    · rw [bif_t (dec_t h0)];rfl
    · rw [bif_f (dec_f h0),reach_j4,bif_t (dec_t (by omega))];rfl
structure Grown (ds:List Int) (d:Vector Bool 32) (c:Bool) (d':Vector Bool 32) (c':Bool):Prop where
  keep : ∀ k,bat d k=true→bat d' k=true
  all : ∀ b:Nat,b<32→(b:Int)∈ds→bat d' b=true
  only : ∀ k,bat d' k=true→bat d k=true∨((k:Int)∈ds∧k<32)
  same:c'=false→c=false∧d'=d
  less:c'=true→c=true∨cz d'<cz d
theorem Grown.cz {ds:List Int} {d d':Vector Bool 32} {c c':Bool} (h:Grown ds d c d' c'):cz d'≤cz d:=cz_mono h.keep
def allKnown (g:GGraph) (d:Vector Bool 32) (k:Nat):Prop := ∀ j,k≤j→j<32→bat d j=true→bat g.known j=true
open Classical in
noncomputable def readyZ (g:GGraph) (x:Int):Bool:=decide ((0≤x∧x<32) ∧ ∀ j,j<32→bat (reachZ g x) j=true→bat g.known j=true)
theorem ready_l1_eq {g:GGraph} {d:Vector Bool 32} : ∀ (n m k:Nat),k+m=32→m<n → ∃ b,ready_l1 g d n k=some b∧(b=true↔allKnown g d k)
  | 0,m,k,_,h=>absurd h (by omega)
  | n+1,0,k,hk,_=>⟨true,by rw [ready_l1,bif_f (dec_f (by omega))],by simp only [true_iff];intro j h1 h2;omega⟩
  | n+1,m+1,k,hk,hn=>by
    have hk32:k<32:=by omega
    obtain ⟨b,h1,h2⟩:=ready_l1_eq (g:=g) (d:=d) n m (k+1) (by omega) (by omega)
    rw [ready_l1,bif_t (dec_t (by omega)),idxB hk32,some_bind]
    simp only [ready_j3,ready_j2,wrs k (by omega)]
    have step:(bat d k=true→bat g.known k=true)→(b=true↔allKnown g d k):=fun hs=>by
      rw [h2]
      constructor
      · intro h j hj
        by_cases e:j=k
        · subst e;intro _;exact hs
        · exact h j (by omega)
      · intro h j hj
        exact h j (by omega)
    cases hd:bat d k with
    | false=>exact ⟨b,h1,step fun h=>by rw [hd] at h;cases h⟩
    | true =>
      rw [bif_t rfl,inR_ok (by omega) (by omega),some_bind,idxB hk32,some_bind]
      cases hkn:bat g.known k with
      | true=>exact ⟨b,h1,step fun _=>hkn⟩
      | false =>
        refine ⟨false,rfl,?_⟩
        simp only [Bool.false_eq_true,false_iff]
        intro h
        have:=h k (Nat.le_refl _) hk32 hd
        rw [hkn] at this;cases this
theorem readyZ_iff {g:GGraph} {x:Int}:readyZ g x=true↔(0≤x∧x<32)∧allKnown g (reachZ g x) 0:=by
  unfold readyZ allKnown
  simp
theorem readyD_eq {fu N:Nat} {g:GGraph} (hg:Small g N) (hf:N+40≤fu) (x:Int):readyD fu g x=some (readyZ g x):=by
  unfold readyD
  rcases int_cases x with ⟨s,hs,rfl⟩ | hx
  · rw [bif_f (dec_f (by omega)),ready_j4,bif_f (dec_f (by omega)),ready_j1,reachD_eq hg hf,some_bind]
    obtain ⟨b,h1,h2⟩:=ready_l1_eq (g:=g) (d:=reachZ g s) fu 32 0 (by omega) (by omega)
    have h1:ready_l1 g (reachZ g s) fu 0=some b:=h1
    rw [h1]
    congr 1
    rw [Bool.eq_iff_iff,h2,readyZ_iff]
    simp;omega
  · have:readyZ g x=false:=by
      cases h:readyZ g x with
      | false=>rfl
      | true=>exact absurd (readyZ_iff.1 h).1 hx
    rw [this]
    by_cases h0:x<0
    · rw [bif_t (dec_t h0)];rfl
    · rw [bif_f (dec_f h0),ready_j4,bif_t (dec_t (by omega))]
end Go.Proofs.Yteilffoclpgijaa
namespace Go.Proofs.Yteilffoclpgijaa
open Go.RowKit
open Rep (rep)
def iat (v:Vector Int 32) (k:Nat):Int:=v[k]?.getD 0
theorem idxI {v:Vector Int 32} {k:Nat} (hk:k<32):idxV v (k:Int)=some (iat v k):=by rw [idxV_ok hk];simp [iat,hk]
theorem iat_set {v:Vector Int 32} {k j:Nat} {x:Int} (hk:k<32):iat (v.set k x) j=if k=j then x else iat v j:=by
  unfold iat
  by_cases hj:j<32
  · simp only [Vector.getElem?_set]
    by_cases e:k=j
    · subst e;simp
    · simp [e]
  · have hkj:k≠j:=by omega
    simp [hj,hkj]
theorem iat_zero (k:Nat):iat (Zr.zd:Vector Int 32) k=0:=by
  show iat (Vector.replicate 32 0) k=0
  unfold iat
  by_cases hk:k<32<;>simp [hk]
def DE (g:GGraph) (a b:Nat):Prop:=a<32∧(b:Int)∈depsAt g a∧b<32
structure Abs (x:GSearch) (l:List Int) (t:Srch):Prop where
  mark : ∀ k,k<32→iat x.mark_ k=(t.mark k:Int)
  low : ∀ k,k<32→iat x.low k=(t.low k:Int)
  ring : ∀ k,k<32→iat x.ring k=(t.ring k:Int)
  on : ∀ k,k<32→bat x.on_ k=decide (k∈t.stack)
  stack:l=t.stack.map fun k=>((k:Nat):Int)
  next:x.next=(t.next:Int)
theorem LI.sub {E:Nat→Nat→Prop} {s t:Srch} {G:List Nat} {n:Nat} {ds ds':Nat→Prop} (h:LI E s G n t ds) (hs : ∀ d,ds' d→ds d):LI E s G n t ds' :=
  ⟨h.was,h.white,h.inv,h.ext,h.nmark,h.low_le,h.low_or,h.stack,fun d hd=>h.proc d (hs d hd)⟩
def VOk (g:GGraph) (fu n:Nat):Prop := ∀ (x:GSearch) (l:List Int) (t:Srch) (G:List Nat) (m:Nat),x.g=g→Abs x l t→Inv (DE g) t G→t.mark m=0→m<32→(∀ a∈G,Path (DE g) a m)→wh t.mark≤n →
  ∃ x' l' t',visit_r fu n x l m=some (x',l')∧x'.g=g∧Abs x' l' t'∧Post (DE g) t t' m G
theorem stack_len {E:Nat→Nat→Prop} {s:Srch} {G:List Nat} (h:Inv E s G):s.stack.length≤32:=by
  refine nodup_len 32 s.stack ?_ fun x hx=>h.lt x (h.pos x hx)
  rw [List.nodup_iff_pairwise_ne]
  refine h.sorted.imp fun {a b} hab => ?_
  rintro rfl
  omega
theorem cast_inj {a b:Nat} (h:(a:Int)=b):a=b:=by omega
theorem visit_l4_eq {l:List Int} {y174:Int} {r:Nat} (C:List Nat) (hC : ∀ c∈C,c<32) (hlen:C.length≤32) : ∀ (n m k:Nat) (x:GSearch),C.length=k+m→m<n →
    ∃ x':GSearch,visit_l4 l y174 r (C.map fun c=>((c:Nat):Int)) n x k=((cutL l none (some y174)).bind fun l2=>some ({ x' with stack:=Hole.mk },l2))∧x'.g=x.g∧x'.mark_=x.mark_∧x'.low=x.low∧x'.next=x.next ∧
      (∀ j,iat x'.ring j=if j∈C.drop k then (r:Int) else iat x.ring j)∧(∀ j,bat x'.on_ j=if j∈C.drop k then false else bat x.on_ j)
  | 0,m,k,x,_,h=>absurd h (by omega)
  | n+1,0,k,x,hk,_=>by
    refine ⟨x,?_,rfl,rfl,rfl,rfl,fun j => ?_,fun j => ?_⟩
    · rw [visit_l4,bif_f (dec_f (by simp;omega))]
      rfl
    · rw [List.drop_of_length_le (by omega)];simp
    · rw [List.drop_of_length_le (by omega)];simp
  | n+1,m+1,k,x,hk,hn=>by
    have hlt:k<C.length:=by omega
    have hc:=hC C[k] (List.getElem_mem _)
    obtain ⟨x',h1,h2,h3,h4,h5,h6,h7⟩:=visit_l4_eq (l:=l) (y174:=y174) (r:=r) C hC hlen n m (k+1) { x with ring:=x.ring.set C[k] (r:Int),on_:=x.on_.set C[k] false } (by omega) (by omega)
    refine ⟨x',?_,h2,h3,h4,h5,fun j => ?_,fun j => ?_⟩
    · rw [visit_l4,bif_t (dec_t (by simp;omega)),idx_nat,List.getElem?_map,List.getElem?_eq_getElem hlt]
      simp only [Option.map_some,some_bind,inR_ok (show (0:Int)≤((C[k]:Nat):Int) by omega) (show ((C[k]:Nat):Int)<32 by omega),idxI hc,idxB hc,setV_ok hc,wrs k (show k≤17592186043904 by omega)]
      exact h1
    · rw [h6 j,List.drop_eq_getElem_cons hlt]
      show (if j∈C.drop (k+1) then (r:Int) else iat (x.ring.set C[k] (r:Int)) j)=_
      rw [iat_set hc]
      simp only [List.mem_cons]
      by_cases e:C[k]=j
      · rw [if_pos e,if_pos (show j=C[k]∨j∈C.drop (k+1) from .inl e.symm)];split<;>rfl
      · have e2 : ¬ j=C[k]:=fun h=>e h.symm
        rw [if_neg e]
        simp only [e2,false_or]
    · rw [h7 j,List.drop_eq_getElem_cons hlt]
      show (if j∈C.drop (k+1) then false else bat (x.on_.set C[k] false) j)=_
      rw [bat_set hc]
      simp only [List.mem_cons]
      by_cases e:C[k]=j
      · rw [if_pos e,if_pos (show j=C[k]∨j∈C.drop (k+1) from .inl e.symm)];split<;>rfl
      · have e2 : ¬ j=C[k]:=fun h=>e h.symm
        rw [if_neg e]
        simp only [e2,false_or]
theorem visit_l3_eq {fu:Nat} {x:GSearch} {l l2:List Int} {y174:Int} (hcut:cutL l (some y174) none=some l2) (C:List Nat) (hlen:C.length≤32) : ∀ (n m k r:Nat),C.length=k+m→m<n→r∈C→(∀ i v,i<k→C[i]? = some v→r≤v) →
    ∃ r':Nat,visit_l3 fu x l y174 (C.map fun c=>((c:Nat):Int)) n r k=visit_l4 l y174 (r':Int) l2 fu x 0∧r'∈C ∧ ∀ v∈C,r'≤v
  | 0,m,k,r,_,h,_,_=>absurd h (by omega)
  | n+1,0,k,r,hk,_,hr,hmin=>by
    refine ⟨r,?_,hr,fun v hv => ?_⟩
    · rw [visit_l3,bif_f (dec_f (by simp;omega)),hcut,some_bind]
    · obtain ⟨i,hi,rfl⟩:=List.getElem_of_mem hv
      exact hmin i _ (by omega) (List.getElem?_eq_getElem hi)
  | n+1,m+1,k,r,hk,hn,hr,hmin=>by
    have hlt:k<C.length:=by omega
    have hmn:min (r:Int) (C[k]:Int)=((min r C[k]:Nat):Int):=by
      by_cases h:r≤C[k]
      · rw [Nat.min_eq_left h,Int.min_eq_left (by omega)]
      · rw [Nat.min_eq_right (by omega),Int.min_eq_right (by omega)]
    obtain ⟨r',h1,h2,h3⟩:=visit_l3_eq (fu:=fu) (x:=x) hcut C hlen n m (k+1) (min r C[k]) (by omega) (by omega) (by
        by_cases h:r≤C[k]
        · rw [Nat.min_eq_left h];exact hr
        · rw [Nat.min_eq_right (by omega)];exact List.getElem_mem _) (fun i v hi hv=>by
        by_cases e:i=k
        · subst e
          rw [List.getElem?_eq_getElem hlt] at hv
          cases hv
          exact Nat.min_le_right _ _
        · exact Nat.le_trans (Nat.min_le_left _ _) (hmin i v (by omega) hv))
    refine ⟨r',?_,h2,h3⟩
    rw [visit_l3,bif_t (dec_t (by simp;omega)),idx_nat,List.getElem?_map,List.getElem?_eq_getElem hlt]
    simp only [Option.map_some,some_bind]
    rw [hmn,wrs k (by omega)]
    exact h1
theorem visit_l2_eq {fu:Nat} {x:GSearch} {S:List Nat} {m p:Nat} (hlen:S.length≤32) (hp:S[p]? = some m) (hno : ∀ i,p<i→S[i]? ≠ some m) : ∀ (n d:Nat),d<n→p+d<S.length →
    visit_l2 fu m x (S.map fun c=>((c:Nat):Int)) n ((p+d:Nat):Int)=(cutL (S.map fun c=>((c:Nat):Int)) (some (p:Int)) none).bind fun l2=>visit_l3 fu x (S.map fun c=>((c:Nat):Int)) p l2 fu m 0
  | 0,d,h,_=>absurd h (by omega)
  | n+1,0,_,hd=>by
    rw [visit_l2,idx_nat,List.getElem?_map,Nat.add_zero,hp]
    simp only [Option.map_some,some_bind]
    rw [bif_f (by simp)]
  | n+1,d+1,hn,hd=>by
    have ih:=visit_l2_eq (fu:=fu) (x:=x) hlen hp hno n d (by omega) (by omega)
    have hlt:p+(d+1)<S.length:=hd
    have hne:=hno (p+(d+1)) (by omega)
    rw [List.getElem?_eq_getElem hlt] at hne
    rw [visit_l2,idx_nat,List.getElem?_map,List.getElem?_eq_getElem hlt]
    simp only [Option.map_some,some_bind]
    rw [bif_t (by simp only [bne_iff_ne,ne_eq];exact fun h=>hne (by rw [cast_inj h])),wr64 (by omega) (by omega),show (((p+(d+1):Nat):Int)-1)=((p+d:Nat):Int) from by omega]
    exact ih
theorem cutL_drop {α : Type} {l:List α} {p:Nat} (hp:p≤l.length):cutL l (some (p:Int)) none=some (l.drop p):=by
  unfold cutL cutOk
  simp only [Option.getD_some,Option.getD_none]
  rw [if_pos (by omega)]
  simp
theorem cutL_take {α : Type} {l:List α} {p:Nat} (hp:p≤l.length):cutL l none (some (p:Int))=some (l.take p):=by
  unfold cutL cutOk
  simp only [Option.getD_some,Option.getD_none]
  rw [if_pos (by omega)]
  simp
theorem visit_end {fu n:Nat} (hfu:40≤fu) {g:GGraph} {x:GSearch} {l:List Int} {s t:Srch} {G:List Nat} {m:Nat} {ds:Nat→Prop} (hm:m<32) (hg:x.g=g) (hA:Abs x l t) (h:LI (DE g) s G m t ds) (hall : ∀ d,DE g m d→ds d) {rec0:GSearch→List Int→Int→Option (GSearch × List Int)} {xs:List Int} {k:Int} (hk : ¬ k<(xs.length:Int)) :
    ∃ x' l' t',visit_l1 fu m rec0 xs (n+1) x l k=some (x',l')∧x'.g=g∧Abs x' l' t'∧Post (DE g) s t' m G:=by
  rw [visit_l1,bif_f (dec_f hk),inR_ok (by omega) (by omega),some_bind,idxI hm,some_bind,some_bind,idxI hm,some_bind,hA.low m hm,hA.mark m hm]
  by_cases hlow:t.low m=t.mark m
  · rw [bif_f (by simp [hlow])]
    obtain ⟨new,hst,hnew⟩:=h.stack
    have hlen:=stack_len h.inv
    have hsl:t.stack.length=s.stack.length+(new.length+1):=by rw [hst];simp
    have hp:t.stack[s.stack.length]? = some m:=by rw [hst];simp
    have hno : ∀ i,s.stack.length<i→t.stack[i]? ≠ some m:=fun i hi he=>by
      obtain ⟨h1,h2⟩:=List.getElem?_eq_some_iff.1 he
      obtain ⟨h3,h4⟩:=List.getElem?_eq_some_iff.1 hp
      have:=List.pairwise_iff_getElem.1 h.inv.sorted s.stack.length i h3 h1 hi
      rw [h2,h4] at this
      omega
    have hlm:l=t.stack.map fun c=>((c:Nat):Int):=hA.stack
    subst hlm
    have e1:=visit_l2_eq (fu:=fu) (x:=x) (S:=t.stack) (m:=m) (p:=s.stack.length) hlen hp hno fu new.length (by omega) (by omega)
    have e0:IntKind.wrap .i64 (((t.stack.map fun c=>((c:Nat):Int)).length:Int)-1)=((s.stack.length+new.length:Nat):Int):=by
      rw [List.length_map,wr64 (by omega) (by omega)];omega
    have hcut:cutL (t.stack.map fun c=>((c:Nat):Int)) (some (s.stack.length:Int)) none=some ((m::new).map fun c=>((c:Nat):Int)):=by
      rw [cutL_drop (by rw [List.length_map];omega),hst,← List.map_drop,List.drop_left]
    have hC : ∀ c∈m::new,c<32:=fun c hc=>h.inv.lt c (h.inv.pos c (by rw [hst];exact List.mem_append_right _ hc))
    have hCl:(m::new).length≤32:=by rw [List.length_cons];omega
    rw [e0,e1,hcut,some_bind]
    obtain ⟨r,h3,h4,h5⟩:=visit_l3_eq (fu:=fu) (x:=x) hcut (m::new) hCl fu (m::new).length 0 m (by omega) (by omega) List.mem_cons_self (fun i v hi=>by omega)
    have h3:visit_l3 fu x (t.stack.map fun c=>((c:Nat):Int)) (s.stack.length:Int) ((m::new).map fun c=>((c:Nat):Int)) fu m 0=_:=h3
    rw [h3]
    obtain ⟨x',k1,k2,k3,k4,k5,k6,k7⟩:=visit_l4_eq (l:=t.stack.map fun c=>((c:Nat):Int)) (y174:=(s.stack.length:Int)) (r:=r) (m::new) hC hCl fu (m::new).length 0 x (by omega) (by omega)
    have k1:visit_l4 (t.stack.map fun c=>((c:Nat):Int)) (s.stack.length:Int) r ((m::new).map fun c=>((c:Nat):Int)) fu x 0=_:=k1
    rw [k1,cutL_take (by rw [List.length_map];omega),some_bind]
    rw [List.drop_zero] at k6 k7
    refine ⟨_,_,{ t with ring:=fun v=>if v∈m::new then r else t.ring v,stack:=s.stack },rfl,k2.trans hg,⟨fun j hj => ?_,fun j hj => ?_,fun j hj => ?_,fun j hj => ?_,?_,?_⟩,?_⟩
    · show iat x'.mark_ j=_
      rw [k3];exact hA.mark j hj
    · show iat x'.low j=_
      rw [k4];exact hA.low j hj
    · show iat x'.ring j=((if j∈m::new then r else t.ring j:Nat):Int)
      rw [k6 j,hA.ring j hj]
      split<;>rfl
    · show bat x'.on_ j=decide (j∈s.stack)
      rw [k7 j,hA.on j hj,hst]
      by_cases hj2:j∈m::new
      · rw [if_pos hj2]
        symm
        rw [decide_eq_false_iff_not]
        intro hs
        have:=h.new hst hj2
        have:=h.old hs
        omega
      · rw [if_neg hj2]
        congr 1
        rw [List.mem_append]
        simp [hj2]
    · show (t.stack.map fun c=>((c:Nat):Int)).take s.stack.length=_
      rw [hst,List.map_append,List.take_left' (by simp)]
    · show x'.next=_
      rw [k5];exact hA.next
    · exact h.pop hall hlow hst (fun v hv=>if_pos hv) (fun v hv=>if_neg hv) h4 h5
  · rw [bif_t (by simp only [bne_iff_ne,ne_eq];exact fun e=>hlow (cast_inj e))]
    exact ⟨x,l,t,rfl,hg,hA,h.keep hall hlow⟩
theorem visit_l1_eq {fu n N:Nat} {g:GGraph} (hN:Small g N) (hfu:N+40≤fu) (hV:VOk g fu n) {s:Srch} {G:List Nat} {m:Nat} (hm:m<32) (hwh:wh s.mark≤n+1) : ∀ (q r k:Nat) (x:GSearch) (l:List Int) (t:Srch),(depsAt g m).length=k+r→r<q→x.g=g→Abs x l t →
    LI (DE g) s G m t (fun d=>d<32∧(d:Int)∈(depsAt g m).take k) → ∃ x' l' t',visit_l1 fu m (visit_r fu n) (depsAt g m) q x l k=some (x',l')∧x'.g=g∧Abs x' l' t'∧Post (DE g) s t' m G
  | 0,r,k,x,l,t,_,h,_,_,_=>absurd h (by omega)
  | q+1,0,k,x,l,t,hk,_,hg,hA,hL=>visit_end (by omega) hm hg hA hL (fun d hd=>⟨hd.2.2,by rw [List.take_of_length_le (by omega)];exact hd.2.1⟩) (by omega)
  | q+1,r+1,k,x,l,t,hk,hq,hg,hA,hL=>by
    have hlt:k<(depsAt g m).length:=by omega
    have hlen:=(hN m).2
    have ih:=fun x l t h1 h2 h3=>visit_l1_eq (s:=s) (G:=G) hN hfu hV hm hwh q r (k+1) x l t (by omega) (by omega) h1 h2 h3
    have htake:(depsAt g m).take (k+1)=(depsAt g m).take k++[(depsAt g m)[k]]:=List.take_succ_eq_append_getElem hlt
    have hmem:(depsAt g m)[k]∈depsAt g m:=List.getElem_mem _
    rw [visit_l1,bif_t (dec_t (by omega)),idx_nat,List.getElem?_eq_getElem hlt,some_bind]
    simp only [visit_j2,visit_j1,wrs k (by omega)]
    rw [htake] at ih
    generalize (depsAt g m)[k]=y at ih hmem ⊢
    rcases int_cases y with ⟨d,hd,rfl⟩ | hy
    · have hset : ∀ v:Nat,(v<32∧(v:Int)∈(depsAt g m).take k++[(d:Int)])→((v<32∧(v:Int)∈(depsAt g m).take k)∨v=d):=fun v ⟨h1,h2⟩=>by
        rcases List.mem_append.1 h2 with h3 | h3
        · exact .inl ⟨h1,h3⟩
        · exact .inr (cast_inj (by simpa using h3))
      have hE:DE g m d:=⟨hm,hmem,hd⟩
      rw [bif_f (dec_f (by omega)),bif_f (dec_f (by omega)),inR_ok (by omega) (by omega),some_bind,idxI hd,some_bind,hA.mark d hd]
      by_cases h0:t.mark d=0
      · rw [bif_t (by simp [h0])]
        have hmm:m∈t.stack:=by obtain ⟨new,hst,_⟩:=hL.stack;rw [hst];simp
        have hw2:wh t.mark≤n:=by
          have h1:=wh_updN (x:=1) hm hL.white (by omega)
          have h2:wh t.mark≤wh (updN s.mark m 1):=wh_mono fun v hv=>by
            by_cases e:v=m
            · subst e;rw [hL.nmark];omega
            · rw [updN_other _ _ e] at hv
              rw [hL.ext.mark_old v hv];exact hv
          omega
        obtain ⟨x',l',t',h1,h2,h3,h4⟩:=hV x l t (m::G) d hg hA hL.inv h0 hd (fun a ha=>by
          rcases List.mem_cons.1 ha with rfl | ha
          · exact Path.one hE
          · have h5:=hL.old (hL.was.gray a ha)
            exact (hL.inv.reach a (List.mem_cons_of_mem _ ha) m hmm (by omega)).tail hE) hw2
        rw [h1,some_bind]
        simp only
        simp only [inR_ok (show (0:Int)≤(m:Int) by omega) (show (m:Int)<32 by omega),idxI hm,idxI hd,setV_ok hm,some_bind]
        have hL2:=(hL.visit h0 hE h4).sub hset
        refine ih _ _ { t' with low:=updN t'.low m (min (t'.low m) (t'.low d)) } h2 ⟨h3.mark,fun j hj => ?_,h3.ring,h3.on,h3.stack,h3.next⟩ hL2
        show iat (x'.low.set m _) j=((updN t'.low m (min (t'.low m) (t'.low d)) j:Nat):Int)
        rw [iat_set hm,h3.low m hm,h3.low d hd]
        by_cases e:m=j
        · subst e
          rw [if_pos rfl,updN_same]
          by_cases h:t'.low m≤t'.low d
          · rw [Nat.min_eq_left h,Int.min_eq_left (by omega)]
          · rw [Nat.min_eq_right (by omega),Int.min_eq_right (by omega)]
        · rw [if_neg e,updN_other _ _ (fun h=>e h.symm)]
          exact h3.low j hj
      · rw [bif_f (by simp;omega),some_bind,idxB hd,some_bind,hA.on d hd]
        by_cases hs:d∈t.stack
        · rw [bif_t (dec_t hs)]
          simp only [inR_ok (show (0:Int)≤(m:Int) by omega) (show (m:Int)<32 by omega),idxI hm,setV_ok hm,some_bind]
          have hL2:=(hL.on hs hE).sub hset
          refine ih _ _ { t with low:=updN t.low m (min (t.low m) (t.mark d)) } hg ⟨hA.mark,fun j hj => ?_,hA.ring,hA.on,hA.stack,hA.next⟩ hL2
          show iat (x.low.set m _) j=((updN t.low m (min (t.low m) (t.mark d)) j:Nat):Int)
          rw [iat_set hm,hA.low m hm]
          by_cases e:m=j
          · subst e
            rw [if_pos rfl,updN_same]
            by_cases h:t.low m≤t.mark d
            · rw [Nat.min_eq_left h,Int.min_eq_left (by omega)]
            · rw [Nat.min_eq_right (by omega),Int.min_eq_right (by omega)]
          · rw [if_neg e,updN_other _ _ (fun h=>e h.symm)]
            exact hA.low j hj
        · rw [bif_f (dec_f hs)]
          exact ih _ _ _ hg hA ((hL.skip (by omega) hs).sub hset)
    · have hset : ∀ v:Nat,(v<32∧(v:Int)∈(depsAt g m).take k++[y])→(v<32∧(v:Int)∈(depsAt g m).take k):=fun v ⟨h1,h2⟩=>by
        rcases List.mem_append.1 h2 with h3 | h3
        · exact ⟨h1,h3⟩
        · have:(v:Int)=y:=by simpa using h3
          exact absurd (show 0≤y∧y<32 by omega) hy
      have:=ih x l t hg hA (hL.sub hset)
      by_cases h0:y<0
      · rw [bif_t (dec_t h0)];exact this
      · rw [bif_f (dec_f h0),bif_t (dec_t (by omega))];exact this
theorem visit_ok_all {fu N:Nat} {g:GGraph} (hN:Small g N) (hfu:N+40≤fu) : ∀ n,VOk g fu n
  | 0=>fun x l t G m _ _ _ h0 hm _ hw=>by
    have:=wh_updN (x:=1) hm h0 (by omega)
    omega
  | n+1=>fun x l t G m hg hA hI h0 hm hG hw=>by
    have hc:=hI.cnt
    have hw1:=wh_updN (x:=1) hm h0 (by omega)
    have hn:IntKind.wrap .i64 (x.next+1)=((t.next+1:Nat):Int):=by rw [hA.next,wr64 (by omega) (by omega)];omega
    have hsl:=stack_len hI
    have hll:l.length=t.stack.length:=by rw [hA.stack];simp
    have hin:inR (m:Int) 32=some ():=inR_ok (by omega) (by omega)
    have happ:app l [(m:Int)]=some (l++[(m:Int)]):=app_ok (a:=l) (b:=[(m:Int)]) (len_bytes (show l.length≤100 by omega))
    rw [visit_r]
    simp only [some_bind,hin,idxI hm,hn,setV_ok hm,happ,idxB hm]
    rw [hg,idxD hm,some_bind]
    have hL:=LI.start hI hm h0 hG
    refine visit_l1_eq hN hfu (visit_ok_all hN hfu n) hm hw fu (depsAt g m).length 0 _ _ (startT t m) (by omega) (by have:=(hN m).1;omega) rfl ⟨fun j hj => ?_,fun j hj => ?_,hA.ring,fun j hj => ?_,?_,rfl⟩ (hL.sub fun d hd=>by simp at hd)
    · show iat (x.mark_.set m _) j=((updN t.mark m (t.next+1) j:Nat):Int)
      rw [iat_set hm]
      by_cases e:m=j
      · subst e;rw [if_pos rfl,updN_same]
      · rw [if_neg e,updN_other _ _ (fun h=>e h.symm)];exact hA.mark j hj
    · show iat (x.low.set m _) j=((updN t.low m (t.next+1) j:Nat):Int)
      rw [iat_set hm]
      by_cases e:m=j
      · subst e;rw [if_pos rfl,updN_same]
      · rw [if_neg e,updN_other _ _ (fun h=>e h.symm)];exact hA.low j hj
    · show bat (x.on_.set m true) j=decide (j∈t.stack++[m])
      rw [bat_set hm,hA.on j hj]
      by_cases e:m=j
      · subst e;simp
      · have e2 : ¬ j=m:=fun h=>e h.symm
        simp [e,e2]
    · show l++[(m:Int)]=(t.stack++[m]).map _
      rw [hA.stack];simp
theorem visitD_eq {fu N:Nat} {g:GGraph} (hN:Small g N) (hfu:N+40≤fu) {m:Nat} (hm:m<32) : ∃ x' l',visitD fu { g:=g,mark_:=Zr.zd,low:=Zr.zd,on_:=Zr.zd,stack:=Zr.zd,ring:=Zr.zd,next:=Zr.zd } [] m=some (x',l')∧x'.g=g ∧
    (∀ k,k<32→(0<iat x'.mark_ k↔Path (DE g) m k))∧(∀ k,k<32→0≤iat x'.mark_ k) ∧ ∀ k,k<32→Path (DE g) m k → ∃ r:Nat,iat x'.ring k=r∧Least (DE g) k r:=by
  let t0:Srch:=⟨fun _=>0,fun _=>0,fun _=>0,[],0⟩
  have hI:Inv (DE g) t0 []:=Inv.empty (fun _=>rfl) rfl rfl
  have hw:wh t0.mark≤fu:=by have:=hI.cnt;omega
  obtain ⟨x',l',t',h1,h2,h3,h4⟩:=visit_ok_all hN hfu fu { g:=g,mark_:=Zr.zd,low:=Zr.zd,on_:=Zr.zd,stack:=Zr.zd,ring:=Zr.zd,next:=Zr.zd } [] t0 [] m rfl
    ⟨fun k _=>iat_zero k,fun k _=>iat_zero k,fun k _=>iat_zero k,fun k _=>by rw [bat_zero];rfl,rfl,rfl⟩ hI rfl hm (by simp) hw
  obtain ⟨h5,h6⟩:=h4.final fun _=>rfl
  refine ⟨x',l',h1,h2,fun k hk => ?_,fun k hk => ?_,fun k hk hp=>⟨t'.ring k,h3.ring k hk,h6 k hp⟩⟩
  · rw [h3.mark k hk,← h5 k];omega
  · rw [h3.mark k hk];omega
end Go.Proofs.Yteilffoclpgijaa
namespace Go.Proofs.Yteilffoclpgijaa
open Go.RowKit
open Rep (rep)
open Classical in
noncomputable def pathB (g:GGraph) (a b:Nat):Bool:=decide (Path (Edge g) a b)
theorem pathB_iff {g:GGraph} {a b:Nat}:pathB g a b=true↔Path (Edge g) a b:=by simp [pathB]
theorem pathB_pre (g:GGraph):Pre (pathB g) :=
  ⟨fun a _=>pathB_iff.2 (.refl a),fun a b c h1 h2=>pathB_iff.2 ((pathB_iff.1 h1).trans (pathB_iff.1 h2)),fun a b ha h=>path_lt (pathB_iff.1 h) ha⟩
noncomputable def orderZ (g:GGraph) (x:Int):List Int:=if readyZ g x=true then (orderS (pathB g) x.toNat).map (fun k=>((k:Nat):Int)) else []
def castL (l:List Nat):List Int:=l.map fun k=>((k:Nat):Int)
theorem castL_len (l:List Nat):(castL l).length=l.length:=by simp [castL]
theorem castL_snoc (l:List Nat) (k:Nat):castL l++[(k:Int)]=castL (l++[k]):=by simp [castL]
theorem mem_castL {l:List Nat} {k:Nat}:(k:Int)∈castL l↔k∈l:=by
  unfold castL
  rw [List.mem_map]
  constructor
  · rintro ⟨a,ha,e⟩
    have:a=k:=cast_inj e
    subst this;exact ha
  · exact fun h=>⟨k,h,rfl⟩
theorem hasZ_castL {l:List Nat} {k:Nat}:hasZ (castL l) (k:Int)=decide (k∈l):=by
  rw [Bool.eq_iff_iff,decide_eq_true_eq,← mem_castL]
  unfold hasZ
  simp
structure Rings (g:GGraph) (n:Nat) (x:GSearch):Prop where
  same:x.g=g
  known : ∀ k,pathB g n k=true→bat g.known k=true
  mark : ∀ k,k<32→(0<iat x.mark_ k↔pathB g n k=true)
  nonneg : ∀ k,k<32→0≤iat x.mark_ k
  ring : ∀ k,k<32→pathB g n k=true → ∃ r:Nat,iat x.ring k=r∧Least (Edge g) k r
theorem path_same {g:GGraph} {n:Nat} (hk : ∀ k,pathB g n k=true→bat g.known k=true) {a b:Nat} (ha:pathB g n a=true):Path (DE g) a b↔Path (Edge g) a b:=by
  constructor
  · intro h
    induction h with
    | refl=>exact .refl _
    | tail _ e ih=>exact ih.tail ⟨e.1,hk _ (pathB_iff.2 ((pathB_iff.1 ha).trans ih)),e.2.1,e.2.2⟩
  · intro h
    induction h with
    | refl=>exact .refl _
    | tail _ e ih=>exact ih.tail ⟨e.1,e.2.2.1,e.2.2.2⟩
theorem least_uniq {E:Nat→Nat→Prop} {u v r q:Nat} (hr:Least E u r) (hq:Least E v q) (h1:Path E u v) (h2:Path E v u):r=q:=by
  have a:=hr.2.2 q (h1.trans hq.1) (hq.2.1.trans h2)
  have b:=hq.2.2 r (h2.trans hr.1) (hr.2.1.trans h1)
  omega
section
variable {g:GGraph} {n:Nat} {x:GSearch} {out:List Nat} {placed:Vector Bool 32}
theorem Rings.least (h:Rings g n x) (hn:n<32) {k:Nat} (hk:pathB g n k=true) {r:Nat} (hr:iat x.ring k=r):Least (Edge g) k r:=by
  obtain ⟨q,h1,h2⟩:=h.ring k (path_lt (pathB_iff.1 hk) hn) hk
  rw [hr] at h1
  rw [cast_inj h1];exact h2
def Free (g:GGraph) (x:GSearch) (y:Int) (placed:Vector Bool 32) (k:Nat):Prop := ∀ m,k≤m→m<32→iat x.mark_ m≠0→iat x.ring m=y → ∀ d:Nat,d<32→(d:Int)∈depsAt g m→iat x.ring d≠y→bat placed d=true
theorem free_l2_eq {y9:Int} {y:Int} {rec:Int→Option Bool} {ds:List Int} (hds:ds.length≤17592186043904) : ∀ (q r k:Nat),ds.length=k+r→r<q →
    (free_l2 x y placed y9 rec ds q k=rec (IntKind.wrap .i64 (y9+1)) ∧ ∀ d:Nat,d<32→(d:Int)∈ds.drop k→iat x.ring d≠y→bat placed d=true) ∨
    (free_l2 x y placed y9 rec ds q k=some false ∧ ∃ d:Nat,d<32∧(d:Int)∈ds.drop k∧iat x.ring d≠y∧bat placed d=false)
  | 0,r,k,_,h=>absurd h (by omega)
  | q+1,0,k,hk,_=>by
    left
    refine ⟨by rw [free_l2,bif_f (dec_f (by omega))];rfl,fun d _ hm => ?_⟩
    rw [List.drop_of_length_le (by omega)] at hm;simp at hm
  | q+1,r+1,k,hk,hq=>by
    have hlt:k<ds.length:=by omega
    have ih:=free_l2_eq (y9:=y9) (y:=y) (rec:=rec) hds q r (k+1) (by omega) (by omega)
    rw [free_l2,bif_t (dec_t (by omega)),idx_nat,List.getElem?_eq_getElem hlt,some_bind,drop_mem hlt]
    simp only [free_j4,free_j3,wrs k (by omega)]
    generalize ds[k]=z
    have more:(∀ d:Nat,d<32→z=(d:Int)→iat x.ring d≠y→bat placed d=true) →
        (free_l2 x y placed y9 rec ds q ((k+1:Nat):Int)=rec (IntKind.wrap .i64 (y9+1)) ∧ ∀ d:Nat,d<32→(d:Int)∈z::ds.drop (k+1)→iat x.ring d≠y→bat placed d=true) ∨
        (free_l2 x y placed y9 rec ds q ((k+1:Nat):Int)=some false ∧ ∃ d:Nat,d<32∧(d:Int)∈z::ds.drop (k+1)∧iat x.ring d≠y∧bat placed d=false):=fun hz=>by
      rcases ih with ⟨h1,h2⟩ | ⟨h1,d,h2,h3,h4,h5⟩
      · refine .inl ⟨h1,fun d hd hm hr => ?_⟩
        rcases List.mem_cons.1 hm with e | hm
        · exact hz d hd e.symm hr
        · exact h2 d hd hm hr
      · exact .inr ⟨h1,d,h2,List.mem_cons_of_mem _ h3,h4,h5⟩
    rcases int_cases z with ⟨d,hd,rfl⟩ | hz
    · rw [bif_t (dec_t (by omega)),bif_t (dec_t (by omega)),inR_ok (by omega) (by omega),some_bind,idxI hd,some_bind]
      by_cases hr:iat x.ring d=y
      · rw [bif_f (by simp [hr])]
        exact more fun c _ e hne=>by
          have:d=c:=cast_inj e
          subst this
          exact absurd hr hne
      · rw [bif_t (by simp [hr]),some_bind,idxB hd,some_bind]
        cases hp:bat placed d with
        | true =>
          exact more fun c _ e _=>by
            have:d=c:=cast_inj e
            subst this
            exact hp
        | false=>exact .inr ⟨rfl,d,hd,List.mem_cons_self,hr,hp⟩
    · have:=more fun d hd e _=>absurd (show 0≤z∧z<32 by omega) hz
      by_cases h0:z≥0
      · rw [bif_t (dec_t h0),bif_f (dec_f (by omega))];exact this
      · rw [bif_f (dec_f h0)];exact this
theorem free_l1_eq {fu N:Nat} (hN:Small g N) (hfu:N≤fu) (hg:x.g=g) {y:Int} : ∀ (q r k:Nat),k+r=32→r<q → ∃ b,free_l1 fu x y placed q k=some b∧(b=true↔Free g x y placed k)
  | 0,r,k,_,h=>absurd h (by omega)
  | q+1,0,k,hk,_=>⟨true,by rw [free_l1,bif_f (dec_f (by omega))],by simp only [true_iff];intro m h1 h2;omega⟩
  | q+1,r+1,k,hk,hq=>by
    have hk32:k<32:=by omega
    obtain ⟨b,h1,h2⟩:=free_l1_eq hN hfu hg q r (k+1) (by omega) (by omega)
    have step:(iat x.mark_ k≠0→iat x.ring k=y → ∀ d:Nat,d<32→(d:Int)∈depsAt g k→iat x.ring d≠y→bat placed d=true)→(b=true↔Free g x y placed k):=fun hs=>by
      rw [h2]
      constructor
      · intro h m hm
        by_cases e:m=k
        · subst e;intro _;exact hs
        · exact h m (by omega)
      · intro h m hm
        exact h m (by omega)
    rw [free_l1,bif_t (dec_t (by omega)),inR_ok (by omega) (by omega),some_bind,idxI hk32,some_bind]
    simp only [free_j5,free_j1,wrs k (by omega)]
    by_cases h0:iat x.mark_ k=0
    · rw [bif_t (by simp [h0])]
      exact ⟨b,h1,step fun h=>absurd h0 h⟩
    · rw [bif_f (by simp [h0]),some_bind,idxI hk32,some_bind]
      by_cases hr:iat x.ring k=y
      · rw [bif_f (by simp [hr]),free_j2,inR_ok (by omega) (by omega),some_bind,hg,idxD hk32,some_bind]
        have:=free_l2_eq (x:=x) (placed:=placed) (y9:=(k:Int)) (y:=y) (rec:=free_l1 fu x y placed q) (hN k).2 fu (depsAt g k).length 0 (by omega) (by have:=(hN k).1;omega)
        rw [List.drop_zero,wrs k (by omega)] at this
        rcases this with ⟨h3,h4⟩ | ⟨h3,d,hd,h4,h5,h6⟩
        · have h3:free_l2 x y placed (k:Int) (free_l1 fu x y placed q) (depsAt g k) fu 0=_:=h3
          exact ⟨b,by rw [h3];exact h1,step fun _ _=>h4⟩
        · have h3:free_l2 x y placed (k:Int) (free_l1 fu x y placed q) (depsAt g k) fu 0=_:=h3
          refine ⟨false,h3,?_⟩
          simp only [Bool.false_eq_true,false_iff]
          intro hf
          have:=hf k (Nat.le_refl _) hk32 h0 hr d hd h4 h5
          rw [h6] at this;cases this
      · rw [bif_t (by simp [hr])]
        exact ⟨b,h1,step fun _ h=>absurd h hr⟩
def Test (g:GGraph) (n:Nat) (x:GSearch) (out:List Nat) (placed:Vector Bool 32) (y:Nat):Prop:=pathB g n y=true∧y∉out∧iat x.ring y=(y:Int)∧Free g x y placed 0
theorem Test.cand (hR:Rings g n x) (hn:n<32) (hO:OKO (pathB g) n out) (hP : ∀ k,k<32→bat placed k=decide (k∈out)) {y:Nat} (h:Test g n x out placed y):candO (pathB g) n out y=true:=by
  obtain ⟨h1,h2,h3,h4⟩:=h
  have hpre:=pathB_pre g
  have hy32:=hpre.lt _ _ hn h1
  rw [candO_iff]
  refine ⟨h1,h2,fun d hd hyd => ?_⟩
  have hcl : ∀ a b,((pathB g y a=true∧pathB g a y=true)∨a∈out)→Edge g a b→((pathB g y b=true∧pathB g b y=true)∨b∈out):=by
    intro a b ha hab
    rcases ha with ⟨ha1,ha2⟩ | ha
    · have hyb:=hpre.trans _ _ _ ha1 (pathB_iff.2 (Path.one hab))
      cases hby:pathB g b y with
      | true=>exact .inl ⟨hyb,rfl⟩
      | false =>
        right
        have hna:=hpre.trans _ _ _ h1 ha1
        have ha32:=hpre.lt _ _ hn hna
        obtain ⟨r,hr1,hr2⟩:=hR.ring a ha32 hna
        have hra:iat x.ring a=(y:Int):=by
          rw [hr1,least_uniq hr2 (hR.least hn h1 h3) (pathB_iff.1 ha2) (pathB_iff.1 ha1)]
        have hma:iat x.mark_ a≠0:=by have:=(hR.mark a ha32).2 hna;omega
        have hnb:=hpre.trans _ _ _ h1 hyb
        have hrb:iat x.ring b≠(y:Int):=fun e=>by
          have:=(hR.least hn hnb e).1
          rw [pathB_iff.2 this] at hby;cases hby
        have:=h4 a (Nat.zero_le _) ha32 hma hra b hab.2.2.2 hab.2.2.1 hrb
        rw [hP b hab.2.2.2] at this
        simpa using this
    · exact .inr (hO.dc a ha b (pathB_iff.2 (Path.one hab)))
  have:=Path.closed (S:=fun a=>(pathB g y a=true∧pathB g a y=true)∨a∈out) hcl (pathB_iff.1 hyd) (.inl ⟨hpre.refl y hy32,hpre.refl y hy32⟩)
  rcases this with h5 | h5
  · exact .inl h5.2
  · exact .inr h5
theorem Test.of_next (hR:Rings g n x) (hn:n<32) (hO:OKO (pathB g) n out) (hP : ∀ k,k<32→bat placed k=decide (k∈out)) {c:Nat} (h:nextO (pathB g) n out=some c):Test g n x out placed c:=by
  have hpre:=pathB_pre g
  obtain ⟨hc32,hcand,hmin⟩:=nextO_some h
  have hcand':=candO_iff.1 hcand
  obtain ⟨h1,h2,h3⟩:=hcand'
  obtain ⟨r,hr1,hr2⟩:=hR.ring c hc32 h1
  have hcr:pathB g c r=true:=pathB_iff.2 hr2.1
  have hrc:pathB g r c=true:=pathB_iff.2 hr2.2.1
  have hrle:r≤c:=hr2.2.2 c (.refl _) (.refl _)
  have hr:r=c:=by
    rcases Nat.lt_or_ge r c with hlt | hge
    · have hno:=hmin r hlt
      have hy:candO (pathB g) n out r=true:=by
        rw [candO_iff]
        refine ⟨hpre.trans _ _ _ h1 hcr,fun hro=>h2 (hO.dc r hro c hrc),fun d hd hrd => ?_⟩
        · rcases h3 d hd (hpre.trans _ _ _ hcr hrd) with h4 | h4
          · exact .inl (hpre.trans _ _ _ h4 hcr)
          · exact .inr h4
      rw [hy] at hno;cases hno
    · omega
  subst hr
  refine ⟨h1,h2,hr1,fun a _ ha32 hma hra d hd hmd hrd => ?_⟩
  have hna:=(hR.mark a ha32).1 (by have:=hR.nonneg a ha32;omega)
  have hl:=hR.least hn hna hra
  have had:pathB g a d=true:=pathB_iff.2 (Path.one ⟨ha32,hR.known a hna,hmd,hd⟩)
  have hcd:=hpre.trans _ _ _ (pathB_iff.2 hl.2.1) had
  rw [hP d hd]
  rcases h3 d hd hcd with h4 | h4
  · exfalso
    have hnd:=hpre.trans _ _ _ h1 hcd
    obtain ⟨q,hq1,hq2⟩:=hR.ring d hd hnd
    refine hrd ?_
    rw [hq1,least_uniq hq2 hr2 (pathB_iff.1 h4) (pathB_iff.1 hcd)]
  · exact dec_t h4
def optI:Option Nat→Int
  | some a=>a
  | none => -1
def PlacedBy (placed:Vector Bool 32) (out:List Nat):Prop := ∀ k,k<32→bat placed k=decide (k∈out)
theorem ring_mem (hR:Rings g n x) (hn:n<32) {c:Nat} (hc:pathB g n c=true) (hrc:iat x.ring c=(c:Int)) {k:Nat} (hk:k<32):(0<iat x.mark_ k∧iat x.ring k=(c:Int))↔(pathB g c k=true∧pathB g k c=true):=by
  have hpre:=pathB_pre g
  constructor
  · rintro ⟨h1,h2⟩
    have hl:=hR.least hn ((hR.mark k hk).1 h1) h2
    exact ⟨pathB_iff.2 hl.2.1,pathB_iff.2 hl.1⟩
  · rintro ⟨h1,h2⟩
    have hnk:=hpre.trans _ _ _ hc h1
    refine ⟨(hR.mark k hk).2 hnk,?_⟩
    obtain ⟨r,hr1,hr2⟩:=hR.ring k hk hnk
    rw [hr1,least_uniq hr2 (hR.least hn hc hrc) (pathB_iff.1 h2) (pathB_iff.1 h1)]
theorem gorder_l2_eq {rec:Vector Bool 32→GSearch→List Int→Option (List Int)} (hR:Rings g n x) (hn:n<32) {c:Nat} (hc:pathB g n c=true) (hrc:iat x.ring c=(c:Int)) : ∀ (q r k:Nat) (placed:Vector Bool 32) (o:List Nat),k+r=32→r<q→o.length≤k+32 →
    PlacedBy placed o → ∃ placed',gorder_l2 rec x (c:Int) q placed (castL o) k=rec placed' x (castL (o++((List.range 32).drop k).filter fun m=>pathB g c m&&pathB g m c))∧PlacedBy placed' (o++((List.range 32).drop k).filter fun m=>pathB g c m&&pathB g m c)
  | 0,r,k,placed,o,_,h,_,_=>absurd h (by omega)
  | q+1,0,k,placed,o,hk,_,_,hP=>⟨placed,by
      rw [gorder_l2,bif_f (dec_f (by omega)),List.drop_of_length_le (by simp;omega),List.filter_nil,List.append_nil],by
      rw [List.drop_of_length_le (by simp;omega),List.filter_nil,List.append_nil];exact hP⟩
  | q+1,r+1,k,placed,o,hk,hq,ho,hP=>by
    have hk32:k<32:=by omega
    have ih:=fun placed o h1 h2=>gorder_l2_eq (rec:=rec) hR hn hc hrc q r (k+1) placed o (by omega) (by omega) h1 h2
    have hmem:=ring_mem hR hn hc hrc hk32
    have hdrop:(List.range 32).drop k=k::(List.range 32).drop (k+1):=by
      rw [List.drop_eq_getElem_cons (by simp;omega)]
      simp
    rw [gorder_l2,bif_t (dec_t (by omega)),hdrop,List.filter_cons]
    simp only [inR_ok (show (0:Int)≤(k:Int) by omega) (show (k:Int)<32 by omega),some_bind,idxI hk32,gorder_j3,gorder_j2,wrs k (by omega)]
    have hno : ¬ (0<iat x.mark_ k∧iat x.ring k=(c:Int))→(pathB g c k&&pathB g k c)=false:=fun h=>by
      cases h1:(pathB g c k&&pathB g k c) with
      | false=>rfl
      | true=>exact absurd (hmem.2 (by simpa using h1)) h
    by_cases h1:0<iat x.mark_ k
    · rw [bif_t (dec_t h1)]
      by_cases h2:iat x.ring k=(c:Int)
      · have h3:=hmem.1 ⟨h1,h2⟩
        rw [bif_t (by simp [h2]),idxB hk32]
        simp only [some_bind,setV_ok hk32]
        rw [app_ok (a:=castL o) (b:=[(k:Int)]) (len_bytes (show (castL o).length≤100 by rw [castL_len];omega)),some_bind,castL_snoc,h3.1,h3.2]
        obtain ⟨p',e1,e2⟩:=ih (placed.set k true) (o++[k]) (by simp;omega) (fun j hj=>by
          rw [bat_set hk32,hP j hj]
          by_cases e:k=j
          · subst e;simp
          · have e2 : ¬ j=k:=fun h=>e h.symm
            simp [e,e2])
        refine ⟨p',?_,?_⟩
        · rw [e1];simp
        · simpa using e2
      · rw [bif_f (by simp [h2]),hno (fun h=>h2 h.2)]
        exact ih placed o (by omega) hP
    · rw [bif_f (dec_f h1),bif_f rfl,hno (fun h=>h1 h.1)]
      exact ih placed o (by omega) hP
theorem gorder_l3_eq {fu N:Nat} (hN:Small g N) (hfu:N+40≤fu) {rec:Vector Bool 32→GSearch→List Int→Option (List Int)} (hR:Rings g n x) (hn:n<32) (hO:OKO (pathB g) n out) (hP:PlacedBy placed out) : ∀ (q r k:Nat),k+r=32→r<q→(∀ j,j<k→candO (pathB g) n out j=true→nextO (pathB g) n out≠some j) →
    gorder_l3 fu placed (castL out) rec q x (-1) k=gorder_j1 fu placed (castL out) rec x (optI (nextO (pathB g) n out))
  | 0,r,k,_,h,_=>absurd h (by omega)
  | q+1,0,k,hk,_,hno=>by
    rw [gorder_l3,bif_f (dec_f (by omega))]
    cases hc:nextO (pathB g) n out with
    | none=>rfl
    | some c =>
      have:=nextO_some hc
      exact absurd hc (hno c (by omega) this.2.1)
  | q+1,r+1,k,hk,hq,hno=>by
    have hk32:k<32:=by omega
    have ih:=fun h=>gorder_l3_eq hN hfu (rec:=rec) hR hn hO hP q r (k+1) (by omega) (by omega) h
    have step : ¬ Test g n x out placed k→(∀ j,j<k+1→candO (pathB g) n out j=true→nextO (pathB g) n out≠some j):=fun ht j hj hcj he=>by
      by_cases e:j=k
      · subst e
        exact ht (Test.of_next hR hn hO hP he)
      · exact hno j (by omega) hcj he
    rw [gorder_l3,bif_t (dec_t (by omega))]
    simp only [inR_ok (show (0:Int)≤(k:Int) by omega) (show (k:Int)<32 by omega),some_bind,idxI hk32,idxB hk32,gorder_j5,gorder_j4,wrs k (by omega)]
    by_cases h1:0<iat x.mark_ k
    · have hnk:=(hR.mark k hk32).1 h1
      rw [bif_t (dec_t h1),hP k hk32]
      by_cases h2:k∈out
      · rw [dec_t h2,bif_f (c := !true) rfl]
        exact ih (step fun ht=>ht.2.1 h2)
      · rw [dec_f h2,bif_t (c := !false) rfl]
        by_cases h3:iat x.ring k=(k:Int)
        · rw [bif_t (by simp [h3])]
          obtain ⟨b,h4,h5⟩:=free_l1_eq (placed:=placed) hN (show N≤fu by omega) hR.same (y:=(k:Int)) fu 32 0 (by omega) (by omega)
          have h4:freeD fu x (k:Int) placed=some b:=h4
          rw [h4,some_bind]
          cases hb:b with
          | true =>
            rw [bif_t rfl]
            have ht:Test g n x out placed k:=⟨hnk,h2,h3,h5.1 hb⟩
            have hcand:=ht.cand hR hn hO hP
            have hnext:nextO (pathB g) n out=some k:=by
              cases hc:nextO (pathB g) n out with
              | none=>rw [nextO_none.1 hc k hk32] at hcand;cases hcand
              | some c =>
                obtain ⟨c1,c2,c3⟩:=nextO_some hc
                rcases Nat.lt_trichotomy c k with h | h | h
                · exact absurd hc (hno c h c2)
                · rw [h]
                · rw [c3 k h] at hcand;cases hcand
            rw [hnext];rfl
          | false =>
            rw [bif_f rfl]
            refine ih (step fun ht => ?_)
            rw [h5.2 ht.2.2.2] at hb
            cases hb
        · rw [bif_f (by simp [h3]),bif_f rfl]
          exact ih (step fun ht=>h3 ht.2.2.1)
    · rw [bif_f (dec_f h1),bif_f rfl]
      exact ih (step fun ht=>h1 ((hR.mark k hk32).2 ht.1))
theorem gorder_l1_eq {fu N:Nat} (hN:Small g N) (hfu:N+40≤fu) (hR:Rings g n x) (hn:n<32) : ∀ (q k:Nat) (out:List Nat) (placed:Vector Bool 32),OKO (pathB g) n out→PlacedBy placed out→k<q→32≤k+out.length →
    gorder_l1 fu q placed x (castL out)=some (castL (orderF (pathB g) n k out))
  | 0,k,out,placed,_,_,h,_=>absurd h (by omega)
  | q+1,k,out,placed,hO,hP,hq,hk=>by
    have hpre:=pathB_pre g
    have h3:=gorder_l3_eq hN hfu (rec:=gorder_l1 fu q) hR hn hO hP fu 32 0 (by omega) (by omega) (fun j hj=>absurd hj (by omega))
    have h3:gorder_l3 fu placed (castL out) (gorder_l1 fu q) fu x (-1) 0=_:=h3
    rw [gorder_l1,h3,gorder_j1]
    cases hc:nextO (pathB g) n out with
    | none =>
      rw [bif_t (by rfl)]
      cases k with
      | zero=>rfl
      | succ k=>simp [orderF,hc]
    | some c =>
      obtain ⟨hc32,hcand,_⟩:=nextO_some hc
      have ht:=Test.of_next hR hn hO hP hc
      have hle:=hO.len
      show (bif decide ((c:Int)<0) then _ else _)=_
      rw [bif_f (dec_f (by omega))]
      obtain ⟨p',e1,e2⟩:=gorder_l2_eq (rec:=gorder_l1 fu q) hR hn ht.1 ht.2.2.1 fu 32 0 placed out (by omega) (by omega) (by omega) hP
      have e1:gorder_l2 (gorder_l1 fu q) x (c:Int) fu placed (castL out) 0=_:=e1
      show gorder_l2 (gorder_l1 fu q) x (c:Int) fu placed (castL out) 0=_
      rw [e1]
      rw [List.drop_zero] at e2 ⊢
      have hstep:=hO.step hpre hn hc
      have hlen:=List.length_pos_of_mem (ringO_self hpre hc32)
      cases k with
      | zero=>rw [hO.full (by omega)] at hc;cases hc
      | succ k =>
        have:=gorder_l1_eq hN hfu hR hn q k (out++ringO (pathB g) c) p' hstep e2 (by omega) (by rw [List.length_append];omega)
        rw [orderF,hc]
        exact this
end
theorem readyZ_known {g:GGraph} {s:Nat} (hs:s<32) (h:readyZ g (s:Int)=true) : ∀ k,pathB g s k=true→bat g.known k=true:=by
  intro k hk
  have h1:=(readyZ_iff.1 h).2 k (Nat.zero_le _) (path_lt (pathB_iff.1 hk) hs)
  refine h1 ?_
  unfold reachZ
  rw [if_pos (by omega)]
  exact (bat_reachV (path_lt (pathB_iff.1 hk) hs)).2 (pathB_iff.1 hk)
theorem gorderD_eq {fu N:Nat} {g:GGraph} (hN:Small g N) (hfu:N+80≤fu) (x:Int):gorderD fu g x=some (orderZ g x):=by
  unfold gorderD orderZ
  rw [readyD_eq hN (by omega),some_bind]
  cases hr:readyZ g x with
  | false=>rw [bif_t (c := !false) rfl,if_neg (by simp)]
  | true =>
    rw [bif_f (c := !true) rfl,if_pos rfl,some_bind]
    obtain ⟨hx,_⟩:=readyZ_iff.1 hr
    obtain ⟨s,hs,rfl⟩ : ∃ s:Nat,s<32∧x=s:=⟨x.toNat,by omega,by omega⟩
    have hkn:=readyZ_known hs hr
    obtain ⟨x',l',h1,h2,h3,h4,h5⟩:=visitD_eq hN (show N+40≤fu by omega) hs
    rw [h1,some_bind]
    have hself:pathB g s s=true:=(pathB_pre g).refl s hs
    have hR:Rings g s x':=⟨h2,hkn,fun k hk=>by rw [h3 k hk,path_same hkn hself,pathB_iff],h4,fun k hk hp=>by
      obtain ⟨r,e1,e2,e3,e4⟩:=h5 k hk ((path_same hkn hself).2 (pathB_iff.1 hp))
      have hnr:pathB g s r=true:=pathB_iff.2 ((pathB_iff.1 hp).trans ((path_same hkn hp).1 e2))
      refine ⟨r,e1,(path_same hkn hp).1 e2,(path_same hkn hnr).1 e3,fun w hw1 hw2=>e4 w ((path_same hkn hp).2 hw1) ?_⟩
      exact (path_same hkn (pathB_iff.2 ((pathB_iff.1 hp).trans hw1))).2 hw2⟩
    exact gorder_l1_eq hN (by omega) hR hs fu 32 [] (Zr.zd:Vector Bool 32) OKO.nil (fun k _=>by rw [bat_zero];simp) (by omega) (by simp)
end Go.Proofs.Yteilffoclpgijaa
namespace Go.Proofs.Yteilffoclpgijaa
open Go.RowKit
open Rep (rep)
def goodC (c:GCase):Bool :=
  bif c.begun then goodOpsZ c.ops&&risingZ c.deps
  else !c.fixed&&((c.ops.length:Int)==0&&((c.deps.length:Int)==0&&(decide (c.told=(Zr.zd:Vector Bool 6))&&(decide (c.known=(Zr.zd:Vector Bool 6))&&(decide (c.has=(Zr.zd:Vector Bool 4))&&decide (c.values=(Zr.zd:Vector Int 4)))))))
theorem postGoodD_eq {fu:Nat} (c:GCase):postGoodD fu c=some (goodC c):=by
  unfold postGoodD goodC postGood_j1 postGood_j2
  simp only [some_bind]
  cases c.begun
  · generalize (!c.fixed)=b1
    generalize ((c.ops.length:Int)==0)=b2
    generalize ((c.deps.length:Int)==0)=b3
    generalize decide (c.told=(Zr.zd:Vector Bool 6))=b4
    generalize decide (c.known=(Zr.zd:Vector Bool 6))=b5
    generalize decide (c.has=(Zr.zd:Vector Bool 4))=b6
    cases b1<;>cases b2<;>cases b3<;>cases b4<;>cases b5<;>cases b6<;>rfl
  · generalize goodOpsZ c.ops=b1
    cases b1<;>rfl
def wholeL (has:Nat→Bool) (s:Int):List GOp→Nat→Bool
  | [],_=>true
  | o::t,k=>bif (shardZ o.key==s && !has k) then false else wholeL has s t (k+1)
def hasAt {n:Nat} (v:Vector Bool n) (k:Nat):Bool:=v[k]?.getD false
theorem hasAt_some {n:Nat} (v:Vector Bool n) (k:Nat) (h:k<n):idxV v (k:Int)=some (hasAt v k):=by
  unfold idxV hasAt
  rw [if_pos (Int.natCast_nonneg k)]
  simp [h]
theorem whole_l1_eq {c:GCase} {s:Int} (hc:c.ops.length≤4) : ∀ (n m k:Nat),c.ops.length=k+m→m<n→whole_l1 c s n k=some (wholeL (hasAt c.has) s (c.ops.drop k) k)
  | 0,m,k,_,h=>absurd h (by omega)
  | n+1,0,k,hk,_=>by
    rw [whole_l1,bif_f (dec_f (by omega)),List.drop_of_length_le (by omega)]
    rfl
  | n+1,m+1,k,hk,hn=>by
    have hlt:k<c.ops.length:=by omega
    have hd:c.ops.drop k=c.ops[k]::c.ops.drop (k+1):=List.drop_eq_getElem_cons hlt
    have hx:c.ops[k]? = some c.ops[k]:=by simp
    have ih:=whole_l1_eq (s:=s) hc n m (k+1) (by omega) (by omega)
    rw [whole_l1,bif_t (dec_t (by omega)),idx_nat,hx,hd]
    simp only [some_bind,wholeL]
    rw [inR_ok (by omega) (by omega),hasAt_some c.has k (by omega)]
    simp only [some_bind,whole_j2,whole_j1]
    rw [wr64 (by omega) (by omega),show (k:Int)+1=((k+1:Nat):Int) from by omega,ih]
    cases (shardZ c.ops[k].key==s)<;>cases hasAt c.has k<;>rfl
def wholeC (c:GCase) (s:Int):Bool:=wholeL (hasAt c.has) s c.ops 0
theorem wholeD_eq {fu:Nat} {c:GCase} {s:Int} (hc:c.ops.length≤4) (hf:5≤fu):wholeD fu c s=some (wholeC c s):=whole_l1_eq hc fu c.ops.length 0 (by omega) (by omega)
theorem wholeL_un {has:Nat→Bool} {s:Int} : ∀ (l:List GOp) (k:Nat),touchesZ l s=false→wholeL has s l k=true
  | [],_,_=>rfl
  | o::t,k,h=>by
    unfold touchesZ at h
    rw [List.any_cons,Bool.or_eq_false_iff] at h
    rw [wholeL,h.1,bif_f (by rfl)]
    exact wholeL_un t (k+1) h.2
def againAt (c:GCase) (id:Int) (k:Nat):List GFrame :=
  bif c.fixed then bif !hasAt c.known k || !wholeC c (ofZ k) then [⟨3,k,id,c.ops,c.deps,[],[]⟩] else []
  else bif touchesZ c.ops (ofZ k) && !hasAt c.told k then [⟨1,k,id,c.ops,[],[],[]⟩] else []
def againL (c:GCase) (id:Int):Nat→Nat→List GFrame
  | 0,_=>[]
  | m+1,k=>againAt c id k++againL c id m (k+1)
theorem againAt_len (c:GCase) (id:Int) (k:Nat):(againAt c id k).length≤1:=by
  unfold againAt
  cases c.fixed<;>simp only [cond_true,cond_false]
  · cases (touchesZ c.ops (ofZ k) && !hasAt c.told k)<;>simp
  · cases (!hasAt c.known k || !wholeC c (ofZ k))<;>simp
theorem againL_mem {c:GCase} {id:Int} : ∀ (m k:Nat) (f:GFrame),f∈againL c id m k→f.ops=c.ops
  | 0,k,f,h=>by simp [againL] at h
  | m+1,k,f,h=>by
    rw [againL,List.mem_append] at h
    rcases h with h | h
    · unfold againAt at h
      cases hfx:c.fixed<;>rw [hfx] at h<;>simp only [cond_true,cond_false] at h
      · cases hb:(touchesZ c.ops (ofZ k) && !hasAt c.told k)<;>rw [hb] at h<;>simp at h
        rw [h]
      · cases hb:(!hasAt c.known k || !wholeC c (ofZ k))<;>rw [hb] at h<;>simp at h
        rw [h]
    · exact againL_mem m (k+1) f h
theorem againL_len {c:GCase} {id:Int} : ∀ (m k:Nat),(againL c id m k).length≤m
  | 0,k=>by simp [againL]
  | m+1,k=>by
    rw [againL,List.length_append]
    have:=againAt_len c id k
    have:=againL_len (c:=c) (id:=id) m (k+1)
    omega
theorem appF {l:List GFrame} {f:GFrame} (h:l.length≤6):app l [f]=some (l++[f]):=app_ok (by
  have:Rep.bytes GFrame=120:=rfl
  rw [this]
  simp
  omega)
theorem again_l1_eq {fu:Nat} {c:GCase} {id:Int} (hc:c.ops.length≤4) (hf:5≤fu) : ∀ (n m k:Nat) (l:List GFrame),k+m=6→m<n→l.length≤k→again_l1 fu c id n l k=some (l++againL c id m k)
  | 0,m,k,l,_,h,_=>absurd h (by omega)
  | n+1,0,k,l,hk,_,_=>by
    rw [again_l1,bif_f (dec_f (by omega))]
    simp [againL]
  | n+1,m+1,k,l,hk,hn,hl=>by
    have ih:=fun l' hl'=>again_l1_eq (id:=id) hc hf n m (k+1) l' (by omega) (by omega) hl'
    have hw:IntKind.wrap .i64 ((k:Int)+1)=((k+1:Nat):Int):=by rw [wr64 (by omega) (by omega)];omega
    rw [again_l1,bif_t (dec_t (by omega)),againL]
    simp only [some_bind,again_j3,again_j4,again_j2,hw,appF (show l.length≤6 by omega),hasAt_some c.told k (by omega),hasAt_some c.known k (by omega),inR_ok (show (0:Int)≤k by omega) (show (k:Int)<6 by omega),wholeD_eq hc hf]
    unfold againAt
    have i0:=ih l (by omega)
    have i1:=fun f=>ih (l++[f]) (by simp;omega)
    cases hfx:c.fixed
    · cases ht:touchesZ c.ops (ofZ k)
      · simp only [Bool.not_false,cond_true,cond_false,Bool.false_and]
        rw [i0];simp
      · cases hh:hasAt c.told k
        · simp only [Bool.not_false,cond_true,cond_false,Bool.true_and]
          rw [i1];simp;rfl
        · simp only [Bool.not_false,Bool.not_true,cond_true,cond_false,Bool.true_and]
          rw [i0];simp
    · cases hh:hasAt c.known k
      · simp only [Bool.not_false,Bool.not_true,cond_true,cond_false,Bool.true_or]
        rw [i1];simp;rfl
      · cases ht:touchesZ c.ops (ofZ k)
        · have hwh:wholeC c (ofZ k)=true:=wholeL_un c.ops 0 ht
          simp only [Bool.not_true,cond_true,cond_false,hwh,Bool.or_false]
          rw [i0];simp
        · cases hwh:wholeC c (ofZ k)
          · simp only [Bool.not_false,Bool.not_true,cond_true,cond_false,Bool.false_or]
            rw [i1];simp;rfl
          · simp only [Bool.not_true,cond_true,cond_false,Bool.or_false]
            rw [i0];simp
def sends (c:GCase) (id:Int):Bool:=goodC c&&(c.begun&&(decide (0≤id∧id<32) && !hasZ c.deps id))
def againC (c:GCase) (id:Int):List GFrame:=bif sends c id then againL c id 6 0 else []
theorem good_len {c:GCase} (h:goodC c=true) (hb:c.begun=true):c.ops.length≤4:=by
  unfold goodC at h
  rw [hb] at h
  simp only [cond_true,Bool.and_eq_true] at h
  exact (goodOps_len h.1).2
theorem againD_eq {fu:Nat} {c:GCase} {id:Int} (hf:7≤fu):againD fu c id=some (againC c id):=by
  unfold againD againC sends again_j5 again_j1
  rw [postGoodD_eq]
  simp only [some_bind]
  cases hg:goodC c
  · rfl
  · cases hb:c.begun
    · rfl
    · by_cases h0:id<0
      · rw [dec_t h0,dec_f (show ¬ (0≤id∧id<32) by omega)];rfl
      · by_cases h1:id≥32
        · rw [dec_f h0,dec_t h1,dec_f (show ¬ (0≤id∧id<32) by omega)];rfl
        · rw [dec_f h0,dec_f h1,dec_t (show 0≤id∧id<32 by omega)]
          cases hh:hasZ c.deps id
          · have:=again_l1_eq (fu:=fu) (id:=id) (good_len hg hb) (by omega) fu 6 0 [] (by omega) (by omega) (by simp)
            simpa using this
          · rfl
theorem againC_small {c:GCase} {id:Int}:(againC c id).length≤6 ∧ ∀ f∈againC c id,f.ops.length≤4:=by
  unfold againC
  cases hs:sends c id
  · simp
  · unfold sends at hs
    simp only [Bool.and_eq_true] at hs
    refine ⟨againL_len 6 0,fun f hf => ?_⟩
    rw [againL_mem 6 0 f hf]
    exact good_len hs.1 hs.2.1
def newC (ops:List GOp):GCase:=⟨true,false,ops,Zr.zd,Zr.zd,[],Zr.zd,Zr.zd⟩
def noC:GCase:=⟨false,false,[],Zr.zd,Zr.zd,[],Zr.zd,Zr.zd⟩
def beginC (t:GTxn):GCase × List GFrame × Int :=
  bif decide (0≤t.id∧t.id<32) then bif goodOpsZ t.ops then (newC t.ops,againC (newC t.ops) t.id,0) else (noC,[],1) else (noC,[],2)
theorem appO {l:List GOp} (h:l.length≤4):app ([]:List GOp) l=some l:=by
  rw [app_ok]
  · simp
  · have:Rep.bytes GOp=24:=rfl
    rw [this]
    simp
    omega
theorem postBeginD_eq {fu:Nat} {t:GTxn} (hf:7≤fu):postBeginD fu t=some (beginC t):=by
  unfold postBeginD beginC postBegin_j2 postBegin_j1 cloneOpsD
  by_cases h0:t.id<0
  · rw [dec_t h0,dec_f (show ¬ (0≤t.id∧t.id<32) by omega)];rfl
  · by_cases h1:t.id≥32
    · rw [dec_f h0,dec_t h1,dec_f (show ¬ (0≤t.id∧t.id<32) by omega)];rfl
    · rw [dec_f h0,dec_f h1,dec_t (show 0≤t.id∧t.id<32 by omega)]
      simp only [some_bind,cond_false,cond_true]
      cases hg:goodOpsZ t.ops
      · rfl
      · simp only [Bool.not_true,cond_false,cond_true]
        rw [appO (goodOps_len hg).2]
        simp only [some_bind]
        have:=againD_eq (c:=newC t.ops) (id:=t.id) hf
        unfold newC at this ⊢
        erw [this]
        rfl
def resultC (c:GCase):List Int × Bool:=bif c.begun&&(goodC c&&(wholeC c 0&&wholeC c 1)) then (c.values.toList.take c.ops.length,true) else ([],false)
theorem postResultD_eq {fu:Nat} {c:GCase} (hf:7≤fu):postResultD fu c=some (resultC c):=by
  unfold postResultD resultC postResult_j2 postResult_j1
  rw [postGoodD_eq]
  simp only [some_bind]
  cases hb:c.begun
  · rfl
  · cases hg:goodC c
    · rfl
    · have hl:=good_len hg hb
      obtain ⟨fu,rfl⟩ : ∃ n,fu=n+3:=⟨fu-3,by omega⟩
      simp only [Bool.not_true,cond_true,cond_false,Bool.true_and]
      rw [postResult_l1,wholeD_eq hl (by omega)]
      simp only [some_bind]
      rw [bif_t (by rfl)]
      cases wholeC c 0
      · rfl
      · rw [bif_f (by rfl),postResult_l1,show IntKind.wrap .i64 (0+1)=1 from by rw [wr64 (by omega) (by omega)];rfl,wholeD_eq hl (by omega)]
        simp only [some_bind]
        rw [bif_t (by rfl)]
        cases wholeC c 1
        · rfl
        · rw [bif_f (by rfl),postResult_l1,show IntKind.wrap .i64 (1+1)=2 from by rw [wr64 (by omega) (by omega)];rfl,bif_f (by rfl)]
          have hv:c.values.toList.length=4:=by simp
          have hcut:cutL c.values.toList none (some (c.ops.length:Int))=some (c.values.toList.take c.ops.length):=by
            unfold cutL cutOk
            rw [if_pos (by simp;omega)]
            simp
          rw [hcut]
          simp only [some_bind,cloneIntsD]
          rw [app_ok]
          · rfl
          · have:Rep.bytes Int=8:=rfl
            rw [this]
            simp
            omega
end Go.Proofs.Yteilffoclpgijaa
namespace Go.Proofs.Yteilffoclpgijaa
open Go.RowKit
open Rep (rep)
def eat (v:Vector GEntry 32) (k:Nat):GEntry:=v[k]?.getD Zr.zd
theorem eat_lt {v:Vector GEntry 32} {k:Nat} (hk:k<32):v[k]=eat v k:=by simp [eat,hk]
theorem idxE {v:Vector GEntry 32} {k:Nat} (hk:k<32):idxV v (k:Int)=some (eat v k):=by rw [idxV_ok hk,eat_lt hk]
theorem eat_ext {v u:Vector GEntry 32} (h : ∀ k,k<32→eat v k=eat u k):v=u:=by
  refine Vector.ext fun k hk => ?_
  rw [eat_lt hk,eat_lt hk]
  exact h k hk
theorem eat_out {v:Vector GEntry 32} {k:Nat} (hk : ¬ k<32):eat v k=Zr.zd:=by simp [eat,hk]
def emptyE (e:GEntry):Bool:=((e.ops.length:Int)==0)&&(((e.first.length:Int)==0)&&(((e.deps.length:Int)==0)&&(((e.at_.length:Int)==0)&&((e.values.length:Int)==0))))
def atUp (m:Int):Int→List Int→Bool
  | _,[]=>true
  | b,k::t=>decide (b<k∧k<m)&&atUp m k t
def bodyOk (k:Int) (e:GEntry):Bool:=goodOpsZ e.ops&&(risingZ e.first&&(risingZ e.deps&&(!hasZ e.first k&&(!hasZ e.deps k&&(!(e.state==1&&decide ((e.deps.length:Int)>0))&&(!(e.state != 3&&decide ((e.at_.length:Int)>0))&&(!((e.at_.length:Int) != (e.values.length:Int))&&atUp e.ops.length (-1) e.at_)))))))
def restOk (k:Int) (e:GEntry):Bool:=bif e.state==0 then emptyE e else bodyOk k e
def entryOk (k:Int) (e:GEntry) (there:Bool):Bool:=decide (0≤e.state∧e.state≤3)&&(((e.state==3)==there)&&restOk k e)
structure GoodN (s:GNode):Prop where
  nodup:s.order.Nodup
  inr : ∀ m∈s.order,0≤m∧m<32
  ent : ∀ k:Nat,k<32→entryOk k (eat s.entries k) (decide ((k:Int)∈s.order))=true
open Classical in
noncomputable def goodN (s:GNode):Bool:=decide (GoodN s)
theorem goodN_iff {s:GNode}:goodN s=true↔GoodN s:=by simp [goodN]
structure ESz (e:GEntry) (N:Nat):Prop where
  ops:e.ops.length<N∧e.ops.length*24≤140737488351232
  first:e.first.length<N∧e.first.length≤17592186043904
  deps:e.deps.length<N∧e.deps.length≤17592186043904
  at_:e.at_.length<N∧e.at_.length≤17592186043904
  values:e.values.length<N∧e.values.length≤17592186043904
structure NSz (s:GNode) (N:Nat):Prop where
  order:s.order.length<N∧s.order.length≤17592186043904
  ent : ∀ k,ESz (eat s.entries k) N
theorem nodeGood_l3_eq {y69:Int} {rec70:Int→Option Bool} {e:GEntry} (ha:e.at_.length≤17592186043904) : ∀ (n m k:Nat) (b:Int),e.at_.length=k+m→m<n → -1≤b→(k=0→b = -1)→(∀ j,k=j+1→e.at_[j]? = some b) →
    nodeGood_l3 y69 rec70 e n k=bif atUp e.ops.length b (e.at_.drop k) then nodeGood_j4 y69 rec70 else some false
  | 0,m,k,b,_,h,_,_,_=>absurd h (by omega)
  | n+1,0,k,b,hk,_,_,_,_=>by
    rw [nodeGood_l3,bif_f (dec_f (by omega)),List.drop_of_length_le (by omega)]
    rfl
  | n+1,m+1,k,b,hk,hn,hb,hb0,hbj=>by
    have hlt:k<e.at_.length:=by omega
    have hx:e.at_[k]? = some e.at_[k]:=List.getElem?_eq_getElem hlt
    have ih:=nodeGood_l3_eq (y69:=y69) (rec70:=rec70) ha n m (k+1) e.at_[k] (by omega) (by omega)
    rw [nodeGood_l3,bif_t (dec_t (by omega)),idx_nat,hx,some_bind,List.drop_eq_getElem_cons hlt]
    simp only [nodeGood_j8,nodeGood_j7,wrs k (by omega),atUp]
    generalize hg:e.at_[k]=x at ih hx
    by_cases h1:x<0
    · rw [bif_t (dec_t h1),dec_f (show ¬ (b<x∧x<(e.ops.length:Int)) by omega)]
      rfl
    · rw [bif_f (dec_f h1)]
      have ih:=ih (by omega) (by omega) (fun j hj=>by rw [show j=k from by omega];exact hx)
      by_cases h2:x≥(e.ops.length:Int)
      · rw [bif_t (dec_t h2),dec_f (show ¬ (b<x∧x<(e.ops.length:Int)) by omega)]
        rfl
      · rw [bif_f (dec_f h2)]
        cases k with
        | zero =>
          rw [bif_f (dec_f (by omega)),dec_t (show b<x∧x<(e.ops.length:Int) by have:=hb0 rfl;omega),Bool.true_and,← ih]
          rfl
        | succ j =>
          rw [bif_t (dec_t (by omega)),show IntKind.wrap .i64 (((j+1:Nat):Int)-1)=(j:Int) by rw [wr64 (by omega) (by omega)];omega,idx_nat,hbj j rfl,some_bind]
          by_cases h3:b≥x
          · rw [dec_t h3,dec_f (show ¬ (b<x∧x<(e.ops.length:Int)) by omega)]
            rfl
          · rw [dec_f h3,dec_t (show b<x∧x<(e.ops.length:Int) by omega),Bool.true_and,← ih]
            rfl
theorem empty_sum {e:GEntry} {N:Nat} (h:ESz e N):decide ((IntKind.wrap .i64 ((IntKind.wrap .i64 ((IntKind.wrap .i64 ((IntKind.wrap .i64 ((e.ops.length:Int)+(e.first.length:Int)))+(e.deps.length:Int)))+(e.at_.length:Int)))+(e.values.length:Int)))>0) = !emptyE e:=by
  obtain ⟨⟨_,h1⟩,⟨_,h2⟩,⟨_,h3⟩,⟨_,h4⟩,⟨_,h5⟩⟩:=h
  unfold emptyE
  generalize e.ops.length=a1 at *
  generalize e.first.length=a2 at *
  generalize e.deps.length=a3 at *
  generalize e.at_.length=a4 at *
  generalize e.values.length=a5 at *
  rw [wr64 (x:=(a1:Int)+a2) (by omega) (by omega),wr64 (x:=(a1:Int)+a2+a3) (by omega) (by omega),wr64 (x:=(a1:Int)+a2+a3+a4) (by omega) (by omega),wr64 (by omega) (by omega)]
  by_cases h:(a1:Int)+a2+a3+a4+a5>0
  · rw [dec_t h]
    symm
    rw [Bool.not_eq_true']
    apply Bool.eq_false_iff.2
    simp only [ne_eq,Bool.and_eq_true,beq_iff_eq]
    omega
  · rw [dec_f h]
    symm
    rw [Bool.not_eq_false']
    simp only [Bool.and_eq_true,beq_iff_eq]
    omega
theorem nodeGood_ent {fu N k:Nat} {e:GEntry} {there:Bool} (h:ESz e N) (hfu:N≤fu) {rec:Int→Option Bool} :
    (bif decide (e.state<0) then nodeGood_j10 fu k rec e true else (bif decide (e.state>3) then nodeGood_j10 fu k rec e true else nodeGood_j10 fu k rec e (!((e.state==3)==there))))=bif entryOk k e there then nodeGood_j4 k rec else some false:=by
  unfold entryOk
  by_cases h1:e.state<0
  · rw [bif_t (dec_t h1),dec_f (show ¬ (0≤e.state∧e.state≤3) by omega)];rfl
  · rw [bif_f (dec_f h1)]
    by_cases h2:e.state>3
    · rw [bif_t (dec_t h2),dec_f (show ¬ (0≤e.state∧e.state≤3) by omega)];rfl
    · rw [bif_f (dec_f h2),dec_t (show 0≤e.state∧e.state≤3 by omega),Bool.true_and]
      unfold nodeGood_j10
      cases h3:((e.state==3)==there)
      · rfl
      · rw [Bool.true_and,bif_f (c := !true) rfl]
        unfold nodeGood_j5 restOk
        cases h0:(e.state==0)
        · rw [cond_false,cond_false]
          have hl:=nodeGood_l3_eq (y69:=k) (rec70:=rec) h.at_.2 fu e.at_.length 0 (-1) (by omega) (by have:=h.at_.1;omega) (by omega) (by omega) (by omega)
          have hl:nodeGood_l3 k rec e fu 0=bif atUp e.ops.length (-1) e.at_ then nodeGood_j4 k rec else some false:=hl
          simp only [some_bind,nodeGood_j9,nodeGood_j6,hl]
          unfold bodyOk
          generalize goodOpsZ e.ops=b1
          generalize risingZ e.first=b2
          generalize risingZ e.deps=b3
          generalize hasZ e.first k=b4
          generalize hasZ e.deps k=b5
          generalize decide ((e.deps.length:Int)>0)=b7
          generalize decide ((e.at_.length:Int)>0)=b9
          generalize ((e.at_.length:Int) != (e.values.length:Int))=b10
          cases b1
          · rfl
          cases b2
          · rfl
          cases b3
          · rfl
          cases b4
          case true=>rfl
          cases b5
          case true=>rfl
          generalize (e.state==1)=b6
          generalize (e.state != 3)=b8
          cases b6<;>cases b7<;>cases b8<;>cases b9<;>cases b10<;>rfl
        · rw [cond_true,cond_true,empty_sum h]
          cases emptyE e<;>rfl
theorem nodeGood_l2_eq {fu N:Nat} {s:GNode} {d:Vector Bool 32} (h:NSz s N) (hfu:N≤fu) : ∀ (n m k:Nat),k+m=32→m<n → ∃ b,nodeGood_l2 fu s d n k=some b∧(b=true ↔ ∀ j,k≤j→j<32→entryOk j (eat s.entries j) (bat d j)=true)
  | 0,m,k,_,h=>absurd h (by omega)
  | n+1,0,k,hk,_=>⟨true,by rw [nodeGood_l2,bif_f (dec_f (by omega))],by simp only [true_iff];intro j h1 h2;omega⟩
  | n+1,m+1,k,hk,hn=>by
    have hk32:k<32:=by omega
    obtain ⟨b,h1,h2⟩:=nodeGood_l2_eq (d:=d) h hfu n m (k+1) (by omega) (by omega)
    rw [nodeGood_l2,bif_t (dec_t (by omega)),idxE hk32,some_bind,some_bind,inR_ok (by omega) (by omega),some_bind,idxB hk32,some_bind,nodeGood_ent (h.ent k) hfu]
    cases he:entryOk k (eat s.entries k) (bat d k) with
    | false =>
      refine ⟨false,rfl,?_⟩
      simp only [Bool.false_eq_true,false_iff]
      intro h
      rw [h k (Nat.le_refl _) hk32] at he;cases he
    | true =>
      refine ⟨b,?_,?_⟩
      · rw [cond_true,nodeGood_j4,wrs k (by omega)];exact h1
      · rw [h2]
        constructor
        · intro h j hj
          by_cases e:j=k
          · subst e;intro _;exact he
          · exact h j (by omega)
        · intro h j hj
          exact h j (by omega)
theorem entry_three {k:Int} {e:GEntry} {t:Bool} (h:entryOk k e t=true):(e.state=3↔t=true):=by
  unfold entryOk at h
  simp only [Bool.and_eq_true] at h
  have h1:=h.2.1
  cases t
  · simp at h1;simp [h1]
  · simp at h1;simp [h1]
theorem nodeGood_l1_eq {fu N:Nat} {s:GNode} (h:NSz s N) (hfu:N+40≤fu) : ∀ (n m k:Nat) (d:Vector Bool 32),s.order.length=k+m→m<n→(s.order.take k).Nodup→(∀ x∈s.order.take k,(0≤x∧x<32))→(∀ j,j<32→bat d j=decide ((j:Int)∈s.order.take k)) →
    ∃ b,nodeGood_l1 fu s n d k=some b∧(b=true↔GoodN s)
  | 0,m,k,d,_,h,_,_,_=>absurd h (by omega)
  | n+1,0,k,d,hk,_,h1,h2,h3=>by
    have hlen:=h.order.2
    rw [nodeGood_l1,bif_f (dec_f (by omega))]
    rw [List.take_of_length_le (by omega)] at h1 h2 h3
    obtain ⟨b,e1,e2⟩:=nodeGood_l2_eq (d:=d) h (show N≤fu by omega) fu 32 0 (by omega) (by omega)
    refine ⟨b,e1,?_⟩
    rw [e2]
    constructor
    · intro h
      exact ⟨h1,h2,fun k hk=>by rw [← h3 k hk];exact h k (Nat.zero_le _) hk⟩
    · intro h j _ hj
      rw [h3 j hj]
      exact h.ent j hj
  | n+1,m+1,k,d,hk,hn,h1,h2,h3=>by
    have hlt:k<s.order.length:=by omega
    have hx:s.order[k]? = some s.order[k]:=List.getElem?_eq_getElem hlt
    have hmem:s.order[k]∈s.order:=List.getElem_mem hlt
    have htk:s.order.take (k+1)=s.order.take k++[s.order[k]]:=(List.take_append_getElem hlt).symm
    have hlen:=h.order.2
    rw [nodeGood_l1,bif_t (dec_t (by omega)),idx_nat,hx,some_bind]
    have ih:=nodeGood_l1_eq h hfu n m (k+1)
    rw [htk] at ih
    generalize hg:s.order[k]=x at *
    rcases int_cases x with ⟨y,hy,rfl⟩ | hno
    · rw [bif_f (dec_f (by omega)),bif_f (dec_f (by omega)),inR_ok (by omega) (by omega),some_bind,idxB hy,some_bind]
      cases hb:bat d y with
      | true =>
        refine ⟨false,rfl,?_⟩
        simp only [Bool.false_eq_true,false_iff]
        intro hG
        have hin:(y:Int)∈s.order.take k:=by rw [h3 y hy] at hb;simpa using hb
        have hnd:=hG.nodup
        rw [← List.take_append_drop (k+1) s.order,htk] at hnd
        have:=(List.nodup_append.1 (List.nodup_append.1 hnd).1).2.2 _ hin _ (List.mem_singleton.2 rfl)
        exact this rfl
      | false =>
        have hnin:(y:Int)∉s.order.take k:=by rw [h3 y hy] at hb;simpa using hb
        rw [cond_false,some_bind,idxE hy,some_bind]
        cases h3s:((eat s.entries y).state != 3) with
        | true =>
          refine ⟨false,rfl,?_⟩
          simp only [Bool.false_eq_true,false_iff]
          intro hG
          have:=(entry_three (hG.ent y hy)).2 (by simpa using hmem)
          rw [this] at h3s;cases h3s
        | false =>
          unfold nodeGood_j3 nodeGood_j2 nodeGood_j1
          rw [cond_false,inR_ok (by omega) (by omega),some_bind,idxB hy,some_bind,setV_ok hy,some_bind,some_bind,wrs k (by omega)]
          refine ih (d.set y true) (by omega) (by omega) ?_ ?_ ?_
          · refine List.nodup_append.2 ⟨h1,by simp,fun a ha b hb => ?_⟩
            rw [List.mem_singleton.1 hb]
            rintro rfl
            exact hnin ha
          · intro z hz
            rcases List.mem_append.1 hz with hz | hz
            · exact h2 z hz
            · rw [List.mem_singleton.1 hz];omega
          · intro j hj
            rw [bat_set hy]
            by_cases e:y=j
            · subst e;simp
            · rw [if_neg e,h3 j hj]
              congr 1
              simp only [List.mem_append,List.mem_singleton,eq_iff_iff]
              constructor
              · exact .inl
              · rintro (h | h)
                · exact h
                · omega
    · have:nodeGood_j3 d k (nodeGood_l1 fu s n) x true=some false:=rfl
      refine ⟨false,?_,?_⟩
      · by_cases h0:x<0
        · rw [bif_t (dec_t h0)];rfl
        · rw [bif_f (dec_f h0),bif_t (dec_t (by omega))];rfl
      · simp only [Bool.false_eq_true,false_iff]
        intro hG
        exact hno (hG.inr x hmem)
theorem nodeGoodD_eq {fu N:Nat} {s:GNode} (h:NSz s N) (hfu:N+40≤fu):nodeGoodD fu s=some (goodN s):=by
  unfold nodeGoodD
  rw [some_bind]
  obtain ⟨b,h1,h2⟩:=nodeGood_l1_eq h hfu fu s.order.length 0 (Zr.zd:Vector Bool 32) (by omega) (by have:=h.order.1;omega) (by simp) (by simp) (fun j _=>by rw [bat_zero];simp)
  have h1:nodeGood_l1 fu s fu (Zr.zd:Vector Bool 32) 0=some b:=h1
  rw [h1]
  congr 1
  rw [Bool.eq_iff_iff,h2,goodN_iff]
end Go.Proofs.Yteilffoclpgijaa
namespace Go.Proofs.Yteilffoclpgijaa
open Go.RowKit
open Rep (rep)
def inWay (s:GNode) (id:Int) (ops:List GOp) (sh:Int) (k:Nat):Bool:=(k:Int) != id&&((eat s.entries k).state != 0&&conflictZ (eat s.entries k).ops ops sh)
def aheadL (s:GNode) (id:Int) (ops:List GOp) (sh:Int):List Nat:=(List.range 32).filter (inWay s id ops sh)
def aheadZ (s:GNode) (id:Int) (ops:List GOp) (sh:Int):List Int:=castL (aheadL s id ops sh)
theorem filt_step {p:Nat→Bool} {k m:Nat}:(List.range' k (m+1)).filter p=(bif p k then [k] else [])++(List.range' (k+1) m).filter p:=by
  rw [List.range'_succ,List.filter_cons]
  cases p k<;>rfl
theorem nodeAhead_l1_eq {s:GNode} {id:Int} {ops:List GOp} {sh:Int} : ∀ (n m k:Nat) (l:List Int),k+m=32→m<n→l.length≤k→nodeAhead_l1 s id ops sh n l k=some (l++castL ((List.range' k m).filter (inWay s id ops sh)))
  | 0,m,k,l,_,h,_=>absurd h (by omega)
  | n+1,0,k,l,hk,_,_=>by rw [nodeAhead_l1,bif_f (dec_f (by omega))];simp [castL]
  | n+1,m+1,k,l,hk,hn,hl=>by
    have hk32:k<32:=by omega
    have hb:Rep.bytes Int=8:=rfl
    have ih:=fun l hl=>nodeAhead_l1_eq (s:=s) (id:=id) (ops:=ops) (sh:=sh) n m (k+1) l (by omega) (by omega) hl
    rw [nodeAhead_l1,bif_t (dec_t (by omega)),idxE hk32,some_bind,some_bind,some_bind,filt_step]
    simp only [nodeAhead_j2,nodeAhead_j1,wrs k (by omega)]
    have no : ∀ b:Bool,b=false→(bif b then (app l [(k:Int)]).bind fun l44=>nodeAhead_l1 s id ops sh n l44 ((k+1:Nat):Int) else nodeAhead_l1 s id ops sh n l ((k+1:Nat):Int))=some (l++castL ((List.range' (k+1) m).filter (inWay s id ops sh))):=fun b hb=>by
      rw [hb,cond_false,ih l (by omega)]
    have yes:(app l [(k:Int)]).bind (fun l44=>nodeAhead_l1 s id ops sh n l44 ((k+1:Nat):Int))=some (l++castL (k::(List.range' (k+1) m).filter (inWay s id ops sh))):=by
      rw [app_ok (by rw [hb];simp only [List.length_singleton];omega),some_bind,ih _ (by simp;omega)]
      simp [castL]
    unfold inWay at no yes ⊢
    cases h1:((k:Int) != id)
    · exact no false rfl
    · cases h2:((eat s.entries k).state != 0)
      · exact no false rfl
      · cases h3:conflictZ (eat s.entries k).ops ops sh
        · exact no false rfl
        · exact yes
theorem nodeAheadD_eq {fu:Nat} {s:GNode} {id:Int} {ops:List GOp} {sh:Int} (hfu:40≤fu):nodeAheadD fu s id ops sh=some (aheadZ s id ops sh):=by
  unfold nodeAheadD
  have h:=nodeAhead_l1_eq (s:=s) (id:=id) (ops:=ops) (sh:=sh) fu 32 0 [] (by omega) (by omega) (by simp)
  have h:nodeAhead_l1 s id ops sh fu [] 0=some ([]++castL ((List.range' 0 32).filter (inWay s id ops sh))):=h
  rw [h,aheadZ,aheadL,List.range_eq_range']
  rfl
def graphZ (s:GNode):GGraph:={ known:=Vector.ofFn fun k:Fin 32=>decide ((eat s.entries k.val).state≥2),deps:=Vector.ofFn fun k:Fin 32=>(eat s.entries k.val).deps }
theorem bat_graphZ {s:GNode} {k:Nat} (hk:k<32):bat (graphZ s).known k=decide ((eat s.entries k).state≥2):=by
  rw [← bat_lt hk]
  simp [graphZ]
theorem depsAt_graphZ {s:GNode} {k:Nat} (hk:k<32):depsAt (graphZ s) k=(eat s.entries k).deps:=by
  simp [graphZ,depsAt,hk]
theorem depsAt_set {g:GGraph} {v:Vector (List Int) 32} {k j:Nat} {x:List Int} (hk:k<32):depsAt { g with deps:=v.set k x } j=if k=j then x else depsAt { g with deps:=v } j:=by
  unfold depsAt
  by_cases hj:j<32
  · simp only [hj,dite_true,Vector.getElem_set]
  · have:k≠j:=by omega
    simp [hj,this]
theorem graph_ext {g h:GGraph} (h1 : ∀ k,k<32→bat g.known k=bat h.known k) (h2 : ∀ k,k<32→depsAt g k=depsAt h k):g=h:=by
  obtain ⟨a,b⟩:=g
  obtain ⟨c,d⟩:=h
  have e1:a=c:=bat_ext h1
  have e2:b=d:=Vector.ext fun k hk=>by
    have:=h2 k hk
    simpa [depsAt,hk] using this
  rw [e1,e2]
def GraphOf (s:GNode) (G:GGraph):Prop := ∀ k,k<32→bat G.known k=decide ((eat s.entries k).state≥2)∧depsAt G k=(eat s.entries k).deps
theorem graphZ_of (s:GNode):GraphOf s (graphZ s):=fun _ hk=>⟨bat_graphZ hk,depsAt_graphZ hk⟩
theorem nodeGraph_l1_eq {s:GNode} {G:GGraph} (hG:GraphOf s G) : ∀ (n m k:Nat) (g:GGraph),k+m=32→m<n→(∀ j,j<k→bat g.known j=bat G.known j∧depsAt g j=depsAt G j)→nodeGraph_l1 s n g k=some G
  | 0,m,k,g,_,h,_=>absurd h (by omega)
  | n+1,0,k,g,hk,_,hg=>by
    rw [nodeGraph_l1,bif_f (dec_f (by omega)),some_bind]
    exact congrArg some (graph_ext (fun j hj=>(hg j (by omega)).1) fun j hj=>(hg j (by omega)).2)
  | n+1,m+1,k,g,hk,hn,hg=>by
    have hk32:k<32:=by omega
    rw [nodeGraph_l1,bif_t (dec_t (by omega)),idxE hk32,some_bind,some_bind,inR_ok (by omega) (by omega),some_bind,idxB hk32,some_bind,setV_ok hk32,some_bind,some_bind,some_bind,idxD hk32,some_bind,setV_ok hk32,some_bind,some_bind,wrs k (by omega)]
    refine nodeGraph_l1_eq hG n m (k+1) _ (by omega) (by omega) fun j hj => ?_
    have hj32:j<32:=by omega
    refine ⟨?_,?_⟩
    · show bat (g.known.set k _) j=_
      rw [bat_set hk32]
      by_cases e:k=j
      · subst e;rw [if_pos rfl,(hG k hk32).1]
      · rw [if_neg e];exact (hg j (by omega)).1
    · rw [depsAt_set hk32]
      by_cases e:k=j
      · subst e;rw [if_pos rfl,(hG k hk32).2]
      · rw [if_neg e]
        exact (hg j (by omega)).2
theorem nodeGraphD_eq {fu:Nat} {s:GNode} (hfu:40≤fu):nodeGraphD fu s=some (graphZ s):=nodeGraph_l1_eq (graphZ_of s) fu 32 0 _ (by omega) (by omega) fun j h=>by omega
end Go.Proofs.Yteilffoclpgijaa
namespace Go.Proofs.Yteilffoclpgijaa
open Go.RowKit
open Rep (rep)
theorem frameZ_in {f:GFrame} (h:frameZ f=0):(1≤f.kind∧f.kind≤5)∧(0≤f.node∧f.node<6)∧(0≤f.id∧f.id<32):=by
  unfold frameZ at h
  split at h
  · cases h
  · split at h
    · cases h
    · omega
theorem setV_in {α : Type} {n:Nat} {v:Vector α n} {j:Int} {x : α} (h0:0≤j) (h1:j<n):setV v j x=some (v.setIfInBounds j.toNat x):=by
  unfold setV
  rw [if_pos ⟨h0,h1⟩]
theorem idxV_in {n:Nat} {v:Vector Bool n} {j:Int} (h0:0≤j) (h1:j<n):idxV v j=some (hasAt v j.toNat):=by
  have:=hasAt_some v j.toNat (by omega)
  rw [show ((j.toNat:Nat):Int)=j from by omega] at this
  exact this
theorem idxV_in' {n:Nat} {v:Vector Int n} {j:Int} (h0:0≤j) (h1:j<n):idxV v j=some (v[j.toNat]?.getD 0):=by
  unfold idxV
  rw [if_pos h0]
  have:j.toNat<n:=by omega
  simp [this]
def one1 (b:Bool):Int:=bif b then 1 else 0
def cnt3 (v:Vector Bool 6) (k:Nat):Int:=one1 (hasAt v k)+one1 (hasAt v (k+1))+one1 (hasAt v (k+2))
def enoughC (c:GCase):Bool:=(!touchesZ c.ops 0||decide (cnt3 c.told 0≥2))&&(!touchesZ c.ops 1||decide (cnt3 c.told 3≥2))
theorem enough_l2_eq {c:GCase} {rec:Int→Option Bool} {s:Nat} (hs:s<2) {n:Nat}:enough_l2 c s rec (n+4) 0 0=bif (touchesZ c.ops s && !decide (cnt3 c.told (3*s)≥2)) then some false else rec (IntKind.wrap .i64 ((s:Int)+1)):=by
  have h3:IntKind.wrap .i64 ((s:Int)*3)=(s:Int)*3:=wr64 (by omega) (by omega)
  have step : ∀ (m:Nat) (y:Int) (k:Nat),k<3→0≤y→y≤10→enough_l2 c s rec (m+1) y k=enough_l2 c s rec m (y+one1 (hasAt c.told (3*s+k))) ((k+1:Nat):Int):=by
    intro m y k hk hy hy2
    have hj:IntKind.wrap .i64 ((s:Int)*3+(k:Int))=((3*s+k:Nat):Int):=by rw [wr64 (by omega) (by omega)];omega
    rw [enough_l2,bif_t (dec_t (by omega)),h3,hj,inR_ok (by omega) (by omega),some_bind,hasAt_some c.told (3*s+k) (by omega),some_bind]
    simp only [enough_j2]
    rw [show IntKind.wrap .i64 ((k:Int)+1)=((k+1:Nat):Int) from by rw [wr64 (by omega) (by omega)];omega,wr64 (by omega) (by omega)]
    cases hasAt c.told (3*s+k)
    · simp [one1]
    · rfl
  have h1 : ∀ b,0≤one1 b∧one1 b≤1:=fun b=>by cases b<;>decide
  have e0:=step (n+3) 0 0 (by omega) (by omega) (by omega)
  have b0:=h1 (hasAt c.told (3*s+0))
  have b1:=h1 (hasAt c.told (3*s+1))
  have e1:=step (n+2) (0+one1 (hasAt c.told (3*s+0))) 1 (by omega) (by omega) (by omega)
  have e2:=step (n+1) (0+one1 (hasAt c.told (3*s+0))+one1 (hasAt c.told (3*s+1))) 2 (by omega) (by omega) (by omega)
  have e0:enough_l2 c s rec (n+4) 0 0=_:=e0
  rw [e0]
  have e1:enough_l2 c s rec (n+3) _ ((0+1:Nat):Int)=_:=e1
  rw [e1]
  have e2:enough_l2 c s rec (n+2) _ ((1+1:Nat):Int)=_:=e2
  rw [e2,enough_l2,bif_f (dec_f (by omega)),some_bind]
  have hc:cnt3 c.told (3*s)=0+one1 (hasAt c.told (3*s+0))+one1 (hasAt c.told (3*s+1))+one1 (hasAt c.told (3*s+2)):=by unfold cnt3;rw [Int.zero_add];rfl
  rw [← hc]
  cases touchesZ c.ops s
  · rfl
  · simp only [cond_true,Bool.true_and,enough_j3,enough_j1]
    by_cases h:cnt3 c.told (3*s)≥2
    · rw [dec_t h,dec_f (by omega)];rfl
    · rw [dec_f h,dec_t (by omega)];rfl
theorem enoughD_eq {fu:Nat} {c:GCase} (hf:7≤fu):enoughD fu c=some (enoughC c):=by
  obtain ⟨n,rfl⟩ : ∃ n,fu=n+4:=⟨fu-4,by omega⟩
  unfold enoughD enoughC
  have e0:=enough_l2_eq (c:=c) (rec:=enough_l1 (n+4) c (n+3)) (s:=0) (by omega) (n:=n)
  have e1:=enough_l2_eq (c:=c) (rec:=enough_l1 (n+4) c (n+2)) (s:=1) (by omega) (n:=n)
  have e0:enough_l2 c 0 (enough_l1 (n+4) c (n+3)) (n+4) 0 0=bif (touchesZ c.ops 0 && !decide (cnt3 c.told 0≥2)) then some false else enough_l1 (n+4) c (n+3) (IntKind.wrap .i64 (0+1)):=e0
  have e1:enough_l2 c 1 (enough_l1 (n+4) c (n+2)) (n+4) 0 0=bif (touchesZ c.ops 1 && !decide (cnt3 c.told 3≥2)) then some false else enough_l1 (n+4) c (n+2) (IntKind.wrap .i64 (1+1)):=e1
  have w1:IntKind.wrap .i64 (0+1)=1:=by rw [wr64 (by omega) (by omega)];rfl
  have w2:IntKind.wrap .i64 (1+1)=2:=by rw [wr64 (by omega) (by omega)];rfl
  rw [enough_l1,bif_t (by rfl),e0]
  cases hA:(touchesZ c.ops 0 && !decide (cnt3 c.told 0≥2))
  · rw [cond_false,w1,enough_l1,bif_t (by rfl),e1]
    cases hB:(touchesZ c.ops 1 && !decide (cnt3 c.told 3≥2))
    · rw [cond_false,w2,enough_l1,bif_f (by rfl)]
      revert hA hB
      cases touchesZ c.ops 0<;>cases touchesZ c.ops 1<;>cases decide (cnt3 c.told 0≥2)<;>cases decide (cnt3 c.told 3≥2)<;>simp
    · rw [cond_true]
      revert hB
      cases touchesZ c.ops 0<;>cases touchesZ c.ops 1<;>cases decide (cnt3 c.told 0≥2)<;>cases decide (cnt3 c.told 3≥2)<;>simp
  · rw [cond_true]
    revert hA
    cases touchesZ c.ops 0<;>cases touchesZ c.ops 1<;>cases decide (cnt3 c.told 0≥2)<;>cases decide (cnt3 c.told 3≥2)<;>simp
def doneStep (sh:Int) (c:GCase) (k v:Int):GCase :=
  bif (decide (k<(c.ops.length:Int))&&(((idx c.ops k).map fun o=>shardZ o.key==sh).getD false && !hasAt c.has k.toNat)) then { c with has:=c.has.setIfInBounds k.toNat true,values:=c.values.setIfInBounds k.toNat v } else c
def doneL (sh:Int):GCase→List Int→List Int→GCase
  | c,k::at_,v::vs=>doneL sh (doneStep sh c k v) at_ vs
  | c,_,_=>c
theorem doneStep_same {sh:Int} {c:GCase} {k v:Int}:(doneStep sh c k v).ops=c.ops∧(doneStep sh c k v).fixed=c.fixed∧(doneStep sh c k v).begun=c.begun∧(doneStep sh c k v).deps=c.deps∧(doneStep sh c k v).told=c.told∧(doneStep sh c k v).known=c.known:=by
  unfold doneStep
  cases (decide (k<(c.ops.length:Int))&&(((idx c.ops k).map fun o=>shardZ o.key==sh).getD false && !hasAt c.has k.toNat))<;>exact ⟨rfl,rfl,rfl,rfl,rfl,rfl⟩
theorem doneL_same {sh:Int} : ∀ {at_ vs:List Int} {c:GCase},(doneL sh c at_ vs).ops=c.ops∧(doneL sh c at_ vs).fixed=c.fixed∧(doneL sh c at_ vs).begun=c.begun∧(doneL sh c at_ vs).deps=c.deps∧(doneL sh c at_ vs).told=c.told∧(doneL sh c at_ vs).known=c.known
  | [],_,_=>by unfold doneL;exact ⟨rfl,rfl,rfl,rfl,rfl,rfl⟩
  | _::_,[],_=>by unfold doneL;exact ⟨rfl,rfl,rfl,rfl,rfl,rfl⟩
  | k::at_,v::vs,c=>by
    unfold doneL
    have h1:=doneL_same (sh:=sh) (at_:=at_) (vs:=vs) (c:=doneStep sh c k v)
    have h2:=doneStep_same (sh:=sh) (c:=c) (k:=k) (v:=v)
    exact ⟨h1.1.trans h2.1,h1.2.1.trans h2.2.1,h1.2.2.1.trans h2.2.2.1,h1.2.2.2.1.trans h2.2.2.2.1,h1.2.2.2.2.1.trans h2.2.2.2.2.1,h1.2.2.2.2.2.trans h2.2.2.2.2.2⟩
structure AtOk (f:GFrame):Prop where
  len:f.at_.length=f.vals.length
  small:f.at_.length≤4
  mem : ∀ n∈f.at_,0≤n∧n<4
theorem AtOk_of {f:GFrame} (h:frameZ f=0):AtOk f:=by
  have:=FOk_of h
  obtain ⟨_,_,_,_,h1,h2,h3,_,_⟩:=this
  exact ⟨h3.symm,h1,fun n hn=>by have:=h2 n hn;omega⟩
theorem postTake_l1_eq {f:GFrame} (hf:AtOk f) : ∀ (n m k:Nat) (c:GCase),f.at_.length=k+m→m<n→c.ops.length≤4→c.fixed=true→postTake_l1 f n c k=some (doneL (ofZ f.node) c (f.at_.drop k) (f.vals.drop k),[],0)
  | 0,m,k,c,_,h,_,_=>absurd h (by omega)
  | n+1,0,k,c,hk,_,_,_=>by
    rw [postTake_l1,bif_f (dec_f (by omega)),List.drop_of_length_le (by omega),some_bind]
    rfl
  | n+1,m+1,k,c,hk,hn,hc,hfx=>by
    have hlt:k<f.at_.length:=by omega
    have hlv:k<f.vals.length:=by have:=hf.len;omega
    have ih:=fun c h1 h2=>postTake_l1_eq hf n m (k+1) c (by omega) (by omega) h1 h2
    have hw:IntKind.wrap .i64 ((k:Int)+1)=((k+1:Nat):Int):=by have:=hf.small;rw [wr64 (by omega) (by omega)];omega
    rw [postTake_l1,bif_t (dec_t (by omega)),idx_nat,List.getElem?_eq_getElem hlt,some_bind,bif_t hfx,List.drop_eq_getElem_cons hlt,List.drop_eq_getElem_cons hlv]
    have hx:=hf.mem f.at_[k] (List.getElem_mem _)
    simp only [postTake_j6,postTake_j5,hw,doneL]
    generalize f.at_[k]=x at hx
    have hd:=doneStep_same (sh:=ofZ f.node) (c:=c) (k:=x) (v:=f.vals[k])
    have ihd:=ih (doneStep (ofZ f.node) c x f.vals[k]) (by rw [hd.1];exact hc) (by rw [hd.2.1];exact hfx)
    by_cases h1:x<(c.ops.length:Int)
    · obtain ⟨o,ho⟩ : ∃ o,idx c.ops x=some o:=by
        unfold idx
        rw [if_pos hx.1]
        exact ⟨_,List.getElem?_eq_getElem (by omega)⟩
      rw [bif_t (dec_t h1),ho,some_bind,some_bind,some_bind]
      cases h2:(shardZ o.key==ofZ f.node)
      · rw [← ihd]
        simp only [cond_false,doneStep,ho,Option.map_some,Option.getD_some,h2,Bool.false_and,Bool.and_false]
      · rw [bif_t (by rfl),inR_ok hx.1 hx.2,some_bind,idxV_in hx.1 hx.2,some_bind]
        cases h3:hasAt c.has x.toNat
        · rw [← ihd]
          have e:doneStep (ofZ f.node) c x f.vals[k]={ c with has:=c.has.setIfInBounds x.toNat true,values:=c.values.setIfInBounds x.toNat f.vals[k] }:=by
            simp only [doneStep,ho,Option.map_some,Option.getD_some,h2,h3,dec_t h1,Bool.not_false,Bool.true_and,cond_true]
          rw [e]
          simp only [Bool.not_false,cond_true]
          rw [idx_nat,List.getElem?_eq_getElem hlv,some_bind,some_bind,setV_in hx.1 hx.2,some_bind,some_bind,some_bind,idxV_in' hx.1 hx.2,some_bind,setV_in hx.1 hx.2,some_bind]
          rfl
        · rw [← ihd]
          simp only [Bool.not_true,cond_false,doneStep,ho,Option.map_some,Option.getD_some,h2,h3,Bool.and_false]
    · rw [bif_f (dec_f h1),← ihd]
      simp only [cond_false,doneStep,dec_f h1,Bool.false_and]
theorem postTake_l1_no {f:GFrame} (hf:AtOk f) : ∀ (n m k:Nat) (c:GCase),f.at_.length=k+m→m<n→c.fixed=false→postTake_l1 f n c k=some (c,[],0)
  | 0,m,k,c,_,h,_=>absurd h (by omega)
  | n+1,0,k,c,hk,_,_=>by rw [postTake_l1,bif_f (dec_f (by omega)),some_bind]
  | n+1,m+1,k,c,hk,hn,hfx=>by
    have hlt:k<f.at_.length:=by omega
    have ih:=postTake_l1_no hf n m (k+1) c (by omega) (by omega) hfx
    have hw:IntKind.wrap .i64 ((k:Int)+1)=((k+1:Nat):Int):=by have:=hf.small;rw [wr64 (by omega) (by omega)];omega
    rw [postTake_l1,bif_t (dec_t (by omega)),idx_nat,List.getElem?_eq_getElem hlt,some_bind,bif_f hfx]
    simp only [postTake_j6,postTake_j5,hw,cond_false]
    exact ih
def toldC (c:GCase) (f:GFrame):GCase:={ c with told:=c.told.setIfInBounds f.node.toNat true,deps:=unionZ c.deps f.deps }
def fixC (c:GCase):GCase:={ c with fixed:=enoughC c }
def takeOk (c:GCase) (id:Int) (f:GFrame):GCase × List GFrame × Int :=
  bif f.kind==2 then
    bif c.fixed||(hasAt c.told f.node.toNat || !touchesZ c.ops (ofZ f.node)) then (c,[],0)
    else (fixC (toldC c f),(bif (fixC (toldC c f)).fixed then againC (fixC (toldC c f)) id else []),0)
  else bif f.kind==4 then (bif c.fixed then ({ c with known:=c.known.setIfInBounds f.node.toNat true },[],0) else (c,[],0))
  else bif f.kind==5 then (bif c.fixed then (doneL (ofZ f.node) c f.at_ f.vals,[],0) else (c,[],0))
  else (c,[],3)
def takes (c:GCase) (id:Int) (f:GFrame):Bool:=goodC c&&(c.begun&&(f.id==id && !hasZ c.deps id))
def takeC (c:GCase) (id:Int) (f:GFrame):GCase × List GFrame × Int :=
  bif takes c id f then (bif frameZ f==0 then takeOk c id f else (c,[],frameZ f)) else (c,[],2)
theorem postTakeD_eq {fu:Nat} {c:GCase} {id:Int} {f:GFrame} (hf:7≤fu):postTakeD fu c id f=some (takeC c id f):=by
  unfold postTakeD takeC takes postTake_j7
  rw [postGoodD_eq]
  simp only [some_bind]
  cases hg:goodC c
  · rfl
  · cases hb:c.begun
    · rfl
    · by_cases hid:f.id=id
      · have e1:(f.id != id)=false:=by simp [hid]
        have e2:(f.id==id)=true:=by simp [hid]
        rw [e1,e2]
        cases hh:hasZ c.deps id
        · simp only [Bool.not_true,Bool.not_false,Bool.and_true,cond_true,cond_false,postTake_j1,some_bind]
          by_cases hz:frameZ f=0
          · have hin:=frameZ_in hz
            have hat:=AtOk_of hz
            have hl:=good_len hg hb
            have e3:(frameZ f != 0)=false:=by simp [hz]
            have e4:(frameZ f==0)=true:=by simp [hz]
            rw [e3,e4]
            simp only [cond_false,cond_true,takeOk]
            cases hk2:(f.kind==2)
            · simp only [cond_false]
              cases hk4:(f.kind==4)
              · simp only [cond_false]
                cases hk5:(f.kind==5)
                · rfl
                · simp only [cond_true]
                  cases hfx:c.fixed
                  · exact postTake_l1_no hat fu f.at_.length 0 c (by omega) (by have:=hat.small;omega) hfx
                  · exact postTake_l1_eq hat fu f.at_.length 0 c (by omega) (by have:=hat.small;omega) hl hfx
              · simp only [cond_true]
                cases hfx:c.fixed
                · rfl
                · simp only [cond_true]
                  rw [inR_ok hin.2.1.1 hin.2.1.2,some_bind,idxV_in hin.2.1.1 hin.2.1.2,some_bind,setV_in hin.2.1.1 hin.2.1.2,some_bind]
                  rfl
            · simp only [cond_true]
              cases hfx:c.fixed
              · simp only [cond_false,Bool.false_or]
                rw [inR_ok hin.2.1.1 hin.2.1.2,some_bind,idxV_in hin.2.1.1 hin.2.1.2,some_bind]
                cases ht:hasAt c.told f.node.toNat
                · simp only [cond_false,Bool.false_or,some_bind,postTake_j3]
                  cases hto:touchesZ c.ops (ofZ f.node)
                  · rfl
                  · simp only [Bool.not_true,cond_false,postTake_j2]
                    rw [inR_ok hin.2.1.1 hin.2.1.2,some_bind,idxV_in hin.2.1.1 hin.2.1.2,some_bind,setV_in hin.2.1.1 hin.2.1.2,some_bind,some_bind,some_bind,some_bind,enoughD_eq hf,some_bind,some_bind]
                    have e5:({ c with told:=c.told.setIfInBounds f.node.toNat true,deps:=unionZ c.deps f.deps,fixed:=enoughC (toldC c f) }:GCase)=fixC (toldC c f):=rfl
                    have e6:(fixC (toldC c f)).fixed=enoughC (toldC c f):=rfl
                    have ha:=againD_eq (c:=fixC (toldC c f)) (id:=id) hf
                    cases he:enoughC (toldC c f)
                    · rw [he] at e5 e6
                      rw [e6]
                      have he':enoughC { c with told:=c.told.setIfInBounds f.node.toNat true,deps:=unionZ c.deps f.deps }=false:=he
                      rw [he']
                      simp only [Bool.not_false,cond_true,cond_false,some_bind]
                      rw [← e5]
                    · rw [he] at e5 e6
                      rw [e6]
                      have he':enoughC { c with told:=c.told.setIfInBounds f.node.toNat true,deps:=unionZ c.deps f.deps }=true:=he
                      rw [he']
                      simp only [Bool.not_true,cond_true,cond_false,some_bind]
                      rw [← e5] at ha ⊢
                      rw [ha]
                      rfl
                · rfl
              · rfl
          · have e3:(frameZ f != 0)=true:=by simp [hz]
            have e4:(frameZ f==0)=false:=by simp [hz]
            rw [e3,e4]
            rfl
        · rfl
      · have e1:(f.id != id)=true:=by simp [hid]
        have e2:(f.id==id)=false:=by simp [hid]
        rw [e1,e2]
        rfl
theorem takeOk_small {c:GCase} {id:Int} {f:GFrame}:(takeOk c id f).1.ops=c.ops∧(takeOk c id f).2.1.length≤6 ∧ ∀ x∈(takeOk c id f).2.1,x.ops.length≤4:=by
  unfold takeOk
  cases (f.kind==2)
  · cases (f.kind==4)
    · cases (f.kind==5)
      · exact ⟨rfl,Nat.zero_le _,by simp⟩
      · cases c.fixed
        · exact ⟨rfl,Nat.zero_le _,by simp⟩
        · exact ⟨doneL_same.1,Nat.zero_le _,by simp⟩
    · cases c.fixed
      · exact ⟨rfl,Nat.zero_le _,by simp⟩
      · exact ⟨rfl,Nat.zero_le _,by simp⟩
  · cases (c.fixed||(hasAt c.told f.node.toNat || !touchesZ c.ops (ofZ f.node)))
    · cases (fixC (toldC c f)).fixed
      · exact ⟨rfl,Nat.zero_le _,by simp⟩
      · exact ⟨rfl,againC_small.1,againC_small.2⟩
    · exact ⟨rfl,Nat.zero_le _,by simp⟩
theorem takeC_small {c:GCase} {id:Int} {f:GFrame}:(takeC c id f).1.ops=c.ops∧(takeC c id f).2.1.length≤6 ∧ ∀ x∈(takeC c id f).2.1,x.ops.length≤4:=by
  unfold takeC
  cases takes c id f
  · exact ⟨rfl,Nat.zero_le _,by simp⟩
  · cases (frameZ f==0)
    · exact ⟨rfl,Nat.zero_le _,by simp⟩
    · exact takeOk_small
end Go.Proofs.Yteilffoclpgijaa
namespace Go.Proofs.Yteilffoclpgijaa
open Go.RowKit
open Rep (rep)
def vat (v:Vector Int 8) (k:Nat):Int:=v[k]?.getD 0
theorem idxV8 {v:Vector Int 8} {j:Int} (h0:0≤j) (h1:j<8):idxV v j=some (vat v j.toNat):=idxV_in' h0 h1
theorem vat_set {v:Vector Int 8} {k j:Nat} {x:Int} (hk:k<8):vat (v.setIfInBounds k x) j=if k=j then x else vat v j:=by
  unfold vat
  rw [Vector.getElem?_setIfInBounds]
  by_cases e:k=j
  · rw [if_pos e,if_pos e,if_pos hk];rfl
  · rw [if_neg e,if_neg e]
theorem eat_setI {v:Vector GEntry 32} {k j:Nat} {x:GEntry} (hk:k<32):eat (v.setIfInBounds k x) j=if k=j then x else eat v j:=by
  unfold eat
  rw [Vector.getElem?_setIfInBounds]
  by_cases e:k=j
  · rw [if_pos e,if_pos e,if_pos hk];rfl
  · rw [if_neg e,if_neg e]
theorem setE {v:Vector GEntry 32} {k:Nat} {x:GEntry} (hk:k<32):setV v (k:Int) x=some (v.setIfInBounds k x):=setV_in (by omega) (by omega)
def doOps (sh:Int):Nat→List GOp→Vector Int 8→List Int→List Int→Vector Int 8 × List Int × List Int
  | _,[],v,a,b=>(v,a,b)
  | i,o::t,v,a,b=>bif shardZ o.key==sh then doOps sh (i+1) t (v.setIfInBounds o.key.toNat (doZ (vat v o.key.toNat) o)) (a++[(i:Int)]) (b++[doZ (vat v o.key.toNat) o]) else doOps sh (i+1) t v a b
def doneE (e:GEntry) (a b:List Int):GEntry:={ e with state:=3,at_:=a,values:=b }
def midN (s:GNode) (n:Nat) (v:Vector Int 8) (a b:List Int):GNode:={ entries:=s.entries.setIfInBounds n (doneE (eat s.entries n) a b),order:=s.order,values:=v }
def oneZ (s:GNode) (n:Nat) (sh:Int):GNode :=
  { entries:=s.entries.setIfInBounds n (doneE (eat s.entries n) (doOps sh 0 (eat s.entries n).ops s.values [] []).2.1 (doOps sh 0 (eat s.entries n).ops s.values [] []).2.2),order:=s.order++[(n:Int)],values:=(doOps sh 0 (eat s.entries n).ops s.values [] []).1 }
theorem midN_set {s:GNode} {n:Nat} {v:Vector Int 8} {a b a' b':List Int} {e:GEntry} (he:e=doneE (eat s.entries n) a' b'):({ entries:=(midN s n v a b).entries.setIfInBounds n e,order:=(midN s n v a b).order,values:=(midN s n v a b).values }:GNode)=midN s n v a' b':=by
  unfold midN
  simp only [Vector.setIfInBounds_setIfInBounds,he]
theorem midN_at {s:GNode} {n:Nat} {v:Vector Int 8} {a b a':List Int} :
    ({ entries:=(midN s n v a b).entries.setIfInBounds n { state:=(doneE (eat s.entries n) a b).state,ops:=(doneE (eat s.entries n) a b).ops,first:=(doneE (eat s.entries n) a b).first,deps:=(doneE (eat s.entries n) a b).deps,at_:=a',values:=(doneE (eat s.entries n) a b).values },order:=(midN s n v a b).order,values:=v }:GNode)=midN s n v a' b:=midN_set rfl
theorem midN_vs {s:GNode} {n:Nat} {v:Vector Int 8} {a b b':List Int} :
    ({ entries:=(midN s n v a b).entries.setIfInBounds n { state:=(doneE (eat s.entries n) a b).state,ops:=(doneE (eat s.entries n) a b).ops,first:=(doneE (eat s.entries n) a b).first,deps:=(doneE (eat s.entries n) a b).deps,at_:=(doneE (eat s.entries n) a b).at_,values:=b' },order:=(midN s n v a b).order,values:=(midN s n v a b).values }:GNode)=midN s n v a b':=midN_set rfl
theorem midN_ent {s:GNode} {n:Nat} (hn:n<32) {v:Vector Int 8} {a b:List Int}:eat (midN s n v a b).entries n=doneE (eat s.entries n) a b:=by
  unfold midN
  rw [eat_setI hn,if_pos rfl]
def KeyOk (l:List GOp):Prop := ∀ o∈l,0≤o.key∧o.key<8
theorem KeyOk.of {l:List GOp} (h:goodOpsZ l=true):KeyOk l:=fun o ho=>by have:=goodOps_mem h o ho;omega
theorem nodeOne_l1_eq {s:GNode} {n:Nat} (hn:n<32) {sh:Int} {e0:GEntry} (he:e0=doneE (eat s.entries n) [] []) (hk:KeyOk (eat s.entries n).ops) (hl:(eat s.entries n).ops.length≤4) (ho:s.order.length≤1000) : ∀ (q m k:Nat) (v:Vector Int 8) (a b:List Int),(eat s.entries n).ops.length=k+m→m<q→a.length≤k→b.length=a.length →
    nodeOne_l1 n sh e0 q (midN s n v a b) k=some { midN s n (doOps sh k ((eat s.entries n).ops.drop k) v a b).1 (doOps sh k ((eat s.entries n).ops.drop k) v a b).2.1 (doOps sh k ((eat s.entries n).ops.drop k) v a b).2.2 with order:=s.order++[(n:Int)] }
  | 0,m,k,v,a,b,_,h,_,_=>absurd h (by omega)
  | q+1,0,k,v,a,b,hkm,_,_,_=>by
    have hb:Rep.bytes Int=8:=rfl
    have hord:(midN s n v a b).order=s.order:=rfl
    have e1:e0.ops=(eat s.entries n).ops:=by rw [he];rfl
    rw [nodeOne_l1,e1,bif_f (dec_f (by omega)),List.drop_of_length_le (by omega),app_ok (by rw [hb,hord];simp only [List.length_singleton];omega)]
    rfl
  | q+1,m+1,k,v,a,b,hkm,hq,ha,hbl=>by
    have hb:Rep.bytes Int=8:=rfl
    have hlt:k<(eat s.entries n).ops.length:=by omega
    have hx:(eat s.entries n).ops[k]? = some (eat s.entries n).ops[k]:=List.getElem?_eq_getElem hlt
    have hkey:=hk _ (List.getElem_mem hlt)
    have e0:e0.ops=(eat s.entries n).ops:=by rw [he];rfl
    have ih:=fun v a b ha hb=>nodeOne_l1_eq hn (sh:=sh) he hk hl ho q m (k+1) v a b (by omega) (by omega) ha hb
    rw [nodeOne_l1,e0,bif_t (dec_t (by omega)),idx_nat,hx,some_bind,some_bind,some_bind,List.drop_eq_getElem_cons hlt]
    simp only [nodeOne_j2,nodeOne_j1,wrs k (by omega),doOps]
    generalize (eat s.entries n).ops[k]=o at hkey
    cases h1:(shardZ o.key==sh)
    · rw [cond_false,cond_false,ih v a b (by omega) hbl]
    · have hv:(midN s n v a b).values=v:=rfl
      rw [cond_true,cond_true,inR_ok hkey.1 hkey.2,some_bind,hv,idxV8 hkey.1 hkey.2,some_bind,some_bind,some_bind,some_bind,setV_in hkey.1 hkey.2,some_bind,some_bind]
      have hm:({ entries:=(midN s n v a b).entries,order:=(midN s n v a b).order,values:=v.setIfInBounds o.key.toNat (doZ (vat v o.key.toNat) o) }:GNode)=midN s n (v.setIfInBounds o.key.toNat (doZ (vat v o.key.toNat) o)) a b:=rfl
      rw [hm]
      generalize hv2:v.setIfInBounds o.key.toNat (doZ (vat v o.key.toNat) o)=v2
      have hvv:vat v2 o.key.toNat=doZ (vat v o.key.toNat) o:=by rw [← hv2,vat_set (by omega),if_pos rfl]
      have hv':(midN s n v2 a b).values=v2:=rfl
      rw [idxE hn,some_bind,some_bind,some_bind,hv',idxV8 hkey.1 hkey.2,some_bind,midN_ent hn,hvv]
      have e1:(doneE (eat s.entries n) a b).at_=a:=rfl
      have e2:(doneE (eat s.entries n) a b).values=b:=rfl
      rw [e1,e2,app_ok (by rw [hb];simp only [List.length_singleton];omega),some_bind,app_ok (by rw [hb];simp only [List.length_singleton];omega),some_bind,some_bind,setE hn,some_bind,some_bind]
      rw [midN_at,idxE hn,some_bind,midN_ent hn,setE hn,some_bind,some_bind,midN_vs]
      exact ih v2 _ _ (by simp;omega) (by simp [hbl])
theorem nodeOneD_eq {fu:Nat} {s:GNode} {n:Nat} (hn:n<32) {sh:Int} (hk:KeyOk (eat s.entries n).ops) (hl:(eat s.entries n).ops.length≤4) (ho:s.order.length≤1000) (hfu:5≤fu):nodeOneD fu s n sh=some (oneZ s n sh):=by
  unfold nodeOneD
  have h:=nodeOne_l1_eq hn (sh:=sh) (e0:=doneE (eat s.entries n) [] []) rfl hk hl ho fu (eat s.entries n).ops.length 0 s.values [] [] (by omega) (by omega) (by simp) rfl
  have h:nodeOne_l1 n sh (doneE (eat s.entries n) [] []) fu (midN s n s.values [] []) 0=some (oneZ s n sh):=h
  have e1 : ∀ (x:GEntry),({ s with entries:=s.entries.setIfInBounds n x }:GNode).entries=s.entries.setIfInBounds n x:=fun _=>rfl
  rw [inR_ok (by omega) (by omega),some_bind,idxE hn,some_bind,setE hn,some_bind,some_bind]
  rw [e1,idxE hn,some_bind,eat_setI hn,if_pos rfl,setE hn,some_bind,some_bind]
  simp only [Vector.setIfInBounds_setIfInBounds]
  rw [idxE hn,some_bind,eat_setI hn,if_pos rfl,setE hn,some_bind,some_bind]
  simp only [Vector.setIfInBounds_setIfInBounds]
  rw [idxE hn,some_bind,eat_setI hn,if_pos rfl]
  rw [← h]
  rfl
theorem atUp_mono {m:Int} : ∀ {l:List Int} {b b':Int},b'≤b→atUp m b l=true→atUp m b' l=true
  | [],_,_,_,_=>rfl
  | x::t,b,b',h,ha=>by
    unfold atUp at *
    simp only [Bool.and_eq_true,decide_eq_true_eq] at *
    exact ⟨⟨by omega,ha.1.2⟩,ha.2⟩
theorem doOps_at {sh:Int} : ∀ (l:List GOp) (i:Nat) (v:Vector Int 8) (a b:List Int),∃ L,(doOps sh i l v a b).2.1=a++L∧atUp ((i+l.length:Nat):Int) ((i:Int)-1) L=true∧(doOps sh i l v a b).2.2.length=b.length+L.length
  | [],i,v,a,b=>⟨[],by simp [doOps],rfl,by simp [doOps]⟩
  | o::t,i,v,a,b=>by
    unfold doOps
    cases h:(shardZ o.key==sh)
    · obtain ⟨L,h1,h2,h3⟩:=doOps_at t (i+1) v a b
      rw [cond_false]
      refine ⟨L,h1,?_,h3⟩
      rw [show i+(o::t).length=i+1+t.length from by simp;omega]
      exact atUp_mono (by omega) h2
    · obtain ⟨L,h1,h2,h3⟩:=doOps_at t (i+1) (v.setIfInBounds o.key.toNat (doZ (vat v o.key.toNat) o)) (a++[(i:Int)]) (b++[doZ (vat v o.key.toNat) o])
      rw [cond_true]
      refine ⟨(i:Int)::L,by rw [h1];simp,?_,by rw [h3];simp;omega⟩
      rw [show i+(o::t).length=i+1+t.length from by simp;omega]
      unfold atUp
      simp only [Bool.and_eq_true,decide_eq_true_eq]
      refine ⟨⟨by omega,by omega⟩,?_⟩
      rw [show (i:Int)=((i+1:Nat):Int)-1 from by omega]
      exact h2
theorem entryOk_iff {k:Int} {e:GEntry} {t:Bool}:entryOk k e t=true↔(0≤e.state∧e.state≤3)∧(e.state=3↔t=true)∧restOk k e=true:=by
  unfold entryOk
  simp only [Bool.and_eq_true,decide_eq_true_eq]
  refine and_congr_right fun _=>and_congr_left fun _ => ?_
  cases t<;>simp
structure Body (k:Int) (e:GEntry):Prop where
  ops:goodOpsZ e.ops=true
  first:risingZ e.first=true
  deps:risingZ e.deps=true
  nfirst:hasZ e.first k=false
  ndeps:hasZ e.deps k=false
  asked:e.state=1→e.deps=[]
  undone:e.state≠3→e.at_=[]
  same:e.at_.length=e.values.length
  up:atUp e.ops.length (-1) e.at_=true
theorem body_iff {k:Int} {e:GEntry}:bodyOk k e=true↔Body k e:=by
  unfold bodyOk
  simp only [Bool.and_eq_true,Bool.not_eq_true']
  constructor
  · rintro ⟨h1,h2,h3,h4,h5,h6,h7,h8,h9⟩
    refine ⟨h1,h2,h3,h4,h5,fun h => ?_,fun h => ?_,?_,h9⟩
    · rw [h] at h6
      simpa using h6
    · have:(e.state != 3)=true:=by simpa using h
      rw [this] at h7
      simpa using h7
    · simp only [bne_eq_false_iff_eq] at h8;omega
  · rintro ⟨h1,h2,h3,h4,h5,h6,h7,h8,h9⟩
    refine ⟨h1,h2,h3,h4,h5,?_,?_,?_,h9⟩
    · by_cases h:e.state=1
      · rw [h6 h];simp
      · simp [h]
    · by_cases h:e.state=3
      · rw [h];rfl
      · rw [h7 h];simp
    · simp only [bne_eq_false_iff_eq];omega
theorem GoodN.body {s:GNode} (h:GoodN s) {k:Nat} (hk:k<32) (h0:(eat s.entries k).state≠0):Body k (eat s.entries k):=by
  have:=(entryOk_iff.1 (h.ent k hk)).2.2
  unfold restOk at this
  rw [bif_f (by simpa using h0)] at this
  exact body_iff.1 this
theorem GoodN.state {s:GNode} (h:GoodN s) {k:Nat} (hk:k<32):0≤(eat s.entries k).state∧(eat s.entries k).state≤3:=(entryOk_iff.1 (h.ent k hk)).1
theorem GoodN.done {s:GNode} (h:GoodN s) {k:Nat} (hk:k<32):(eat s.entries k).state=3↔(k:Int)∈s.order:=by
  rw [(entryOk_iff.1 (h.ent k hk)).2.1];simp
theorem emptyE_iff {e:GEntry}:emptyE e=true↔e.ops=[]∧e.first=[]∧e.deps=[]∧e.at_=[]∧e.values=[]:=by
  unfold emptyE
  simp [List.length_eq_zero_iff]
theorem GoodN.empty {s:GNode} (h:GoodN s) {k:Nat} (hk:k<32) (h0:(eat s.entries k).state=0):(eat s.entries k).ops=[]∧(eat s.entries k).first=[]∧(eat s.entries k).deps=[]∧(eat s.entries k).at_=[]∧(eat s.entries k).values=[]:=by
  have:=(entryOk_iff.1 (h.ent k hk)).2.2
  unfold restOk at this
  rw [bif_t (by simpa using h0)] at this
  exact emptyE_iff.1 this
theorem nodup_len_int {l:List Int} (h:l.Nodup) (hr : ∀ m∈l,0≤m∧m<32):l.length≤32:=by
  have h1:(l.map Int.toNat).Nodup:=by
    refine List.pairwise_map.2 (h.imp_of_mem fun {a b} ha hb hab => ?_)
    have:=hr a ha
    have:=hr b hb
    omega
  have:=nodup_len 32 (l.map Int.toNat) h1 fun x hx=>by
    obtain ⟨y,hy,rfl⟩:=List.mem_map.1 hx
    have:=hr y hy
    omega
  simpa using this
theorem GoodN.len {s:GNode} (h:GoodN s):s.order.length≤32:=nodup_len_int h.nodup h.inr
theorem GoodN.set {s t:GNode} (h:GoodN s) {n:Nat} (hn:n<32) {e:GEntry} (he:t.entries=s.entries.setIfInBounds n e) (ho:t.order=s.order) (h3:(eat s.entries n).state≠3) (h1:1≤e.state∧e.state≤2) (hb:Body n e):GoodN t:=by
  refine ⟨by rw [ho];exact h.nodup,by rw [ho];exact h.inr,fun k hk => ?_⟩
  rw [he,ho,eat_setI hn]
  by_cases e':n=k
  · subst e'
    rw [if_pos rfl]
    refine entryOk_iff.2 ⟨by omega,⟨fun h=>by omega,fun hm => ?_⟩,?_⟩
    · exact absurd ((h.done hn).2 (by simpa using hm)) h3
    · unfold restOk
      rw [bif_f (by simp;omega)]
      exact body_iff.2 hb
  · rw [if_neg e']
    exact h.ent k hk
theorem GoodN.one {s:GNode} (h:GoodN s) {n:Nat} (hn:n<32) (h2:(eat s.entries n).state=2) (sh:Int):GoodN (oneZ s n sh):=by
  have hb:=h.body hn (by omega)
  have hno:(n:Int)∉s.order:=fun hm=>by have:=(h.done hn).2 hm;omega
  refine ⟨?_,?_,fun k hk => ?_⟩
  · refine List.nodup_append.2 ⟨h.nodup,by simp,fun a ha b hb => ?_⟩
    rw [List.mem_singleton.1 hb]
    rintro rfl
    exact hno ha
  · intro m hm
    rcases List.mem_append.1 hm with hm | hm
    · exact h.inr m hm
    · rw [List.mem_singleton.1 hm];omega
  · show entryOk k (eat (s.entries.setIfInBounds n _) k) (decide ((k:Int)∈s.order++[(n:Int)]))=true
    rw [eat_setI hn]
    by_cases e':n=k
    · subst e'
      rw [if_pos rfl]
      obtain ⟨L,a1,a2,a3⟩:=doOps_at (sh:=sh) (eat s.entries n).ops 0 s.values [] []
      refine entryOk_iff.2 ⟨(show (0:Int)≤3∧(3:Int)≤3 by decide),⟨fun _=>by simp,fun _=>rfl⟩,?_⟩
      show (bif false then _ else bodyOk _ _)=true
      rw [cond_false]
      refine body_iff.2 ⟨hb.ops,hb.first,hb.deps,hb.nfirst,hb.ndeps,fun h => ?_,fun h=>absurd rfl h,?_,?_⟩
      · have:(3:Int)=1:=h
        omega
      · show (doOps sh 0 (eat s.entries n).ops s.values [] []).2.1.length=(doOps sh 0 (eat s.entries n).ops s.values [] []).2.2.length
        rw [a1,a3]
        simp
      · show atUp _ (-1) (doOps sh 0 _ s.values [] []).2.1=true
        rw [a1,List.nil_append]
        rw [Nat.zero_add] at a2
        exact a2
    · rw [if_neg e']
      have:decide ((k:Int)∈s.order++[(n:Int)])=decide ((k:Int)∈s.order):=by
        apply decide_eq_decide.2
        simp only [List.mem_append,List.mem_singleton]
        constructor
        · rintro (h | h)
          · exact h
          · omega
        · exact .inl
      rw [this]
      exact h.ent k hk
end Go.Proofs.Yteilffoclpgijaa
namespace Go.Proofs.Yteilffoclpgijaa
open Go.RowKit Go.ChangeShapes Go.WideShapes Go.ChangeAt Go.Deep
section
variable {H:Type} {enc:TypeId × Value→H} {P:Program} {w:World}
theorem weightsAll_mem {P:Program} {e:TypeId} : ∀ {ds:List (DataW H)} {d:DataW H},d∈ds → ∀ n∈d.weights P e,n∈DataW.weightsAll P e ds
  | d0::ds,d,hd,n,hn=>by
    simp only [DataW.weightsAll,List.mem_append]
    rcases List.mem_cons.1 hd with h | h
    · subst h;exact .inl hn
    · exact .inr (weightsAll_mem h n hn)
end
end Go.Proofs.Yteilffoclpgijaa
namespace Go.Proofs.Yteilffoclpgijaa
open Go.RowKit Go.ChangeShapes Go.WideShapes Go.ChangeAt Go.Deep
open Rep (rep)
theorem repL.fits {α : Type} [Rep α] {M:Mm} {v:Value} {l:List α} (h:repL M v l):l.length*Rep.bytes α ≤ 140737488351232:=by
  obtain ⟨_,_,_,_,_,h,_⟩:=h
  exact h
def wholeM (w:World):Mm:=fun b=>match w.heap[b]? with | some (.cells arr _ _)=>some arr.toList | _=>none
theorem wholeM_agree (w:World):Agree (wholeM w) w:=fun b p hb=>by
  unfold wholeM at hb
  split at hb
  · rename_i arr t fr hh
    cases hb
    exact ⟨arr,t,fr,hh,List.prefix_refl _⟩
  · cases hb
theorem weightsEach_mem {H:Type} {P:Program} {ts:List TypeId} {ds:List (DataW H)} {j:Nat} {t:TypeId} {d:DataW H} (ht:ts[j]? = some t) (hd:ds[j]? = some d) : ∀ n∈d.weights P t,n∈DataW.weightsEach P ts ds:=DataW.weights_mem_each ht hd
def Opn (P:Program) (t:TypeId) (α : Type) [Rep α]:Prop :=
  P.cellsOf t=Rep.k α ∧ ∀ (H:Type) (enc:TypeId × Value→H) (w:World) (fuel:Nat) (cs:List Value) (d:DataW H) (p:List MemPlace),
    DataW.trod enc P w 0 (fun _=>true) true fuel t cs=some (d,p)→(∀ n∈d.weights P t,n≤reachBytes) → ∃ x : α,rep (wholeM w) cs x
section
variable {P:Program} {t e:TypeId} {α : Type} [Rep α]
theorem opn_int (ht:P.underlying t=some (.int .i64)) (hc:P.cellsOf t=1):Opn P t Int:=⟨hc,fun H enc w fuel cs d p h hw=>by
  obtain ⟨n,rfl,_,_⟩:=DataW.trod_int ht h
  exact ⟨n,rfl⟩⟩
theorem add_bo (a:Addr) (i:Nat):(a.add i).block=a.block∧(a.add i).off=a.off+i:=by
  unfold Addr.add
  split
  · rename_i h;exact ⟨rfl,by rw [show i=0 by simpa using h];rfl⟩
  · exact ⟨rfl,rfl⟩
theorem cells_piece {w:World} {a:Addr} {k:Nat} {cs:List Value} (h:w.cells? 0 a k=some cs) (hk:0<k) :
    a.spot=none ∧ ∃ q,wholeM w a.block=some q∧a.off+k≤q.length∧sl q a.off k=cs:=by
  obtain ⟨_,hl,hat⟩:=World.cells?_some h
  have h0:=hat 0 hk
  rw [List.getElem?_eq_getElem (by omega)] at h0
  have hsp:a.spot=none:=by
    have:=World.cell?_spot h0
    simpa [Addr.add] using this
  refine ⟨hsp,?_⟩
  have hc : ∀ i,i<k → ∃ arr tt fr,w.heap[a.block]? = some (.cells arr tt fr)∧arr[a.off+i]? = cs[i]? := by
    intro i hi
    have hi':=hat i hi
    rw [List.getElem?_eq_getElem (by omega)] at hi' ⊢
    unfold World.cell? at hi'
    split at hi'
    · rename_i arr tt fr hh
      rw [(add_bo a i).1] at hh
      refine ⟨arr,tt,fr,hh,?_⟩
      split at hi'
      · cases hi'
      · rw [(add_bo a i).2] at hi'
        exact hi'
    · cases hi'
  obtain ⟨arr,tt,fr,hh,_⟩:=hc 0 hk
  have hall : ∀ i,i<k→arr[a.off+i]? = cs[i]? := by
    intro i hi
    obtain ⟨arr',tt',fr',hh',he⟩:=hc i hi
    rw [hh] at hh'
    cases hh'
    exact he
  have hlen:a.off+k≤arr.size:=by
    have:=hall (k-1) (by omega)
    rw [List.getElem?_eq_getElem (by omega)] at this
    have:=(Array.getElem?_eq_some_iff.1 this).1
    omega
  refine ⟨arr.toList,by simp [wholeM,hh],by simpa using hlen,?_⟩
  refine ext_get fun j => ?_
  by_cases hj:j<k
  · rw [sl_get _ _ _ _ hj]
    simpa using hall j hj
  · rw [sl_get_none _ _ _ _ (by omega),List.getElem?_eq_none (by omega)]
theorem opn_slice (ht:P.underlying t=some (.slice e)) (hc:P.cellsOf t=1) (he:Opn P e α) (hk:0<Rep.k α) (hby:P.bytesOf e=Rep.bytes α):Opn P t (List α):=⟨hc,fun H enc w fuel cs d p h hw=>by
  rcases open_slice ht h with ⟨rfl,hx⟩ | ⟨a,len,cap,m,n,D,Pl,rfl,_,hl,hm,hmm,hx,hel⟩
  · exact ⟨[],_,rfl,repL_nil _⟩
  · simp only [if_true] at hmm
    subst hmm
    simp only [Prod.mk.injEq] at hx
    rw [hx.1] at hw
    simp only [DataW.weights,ht,hby,List.mem_cons,List.mem_append,List.length_map,List.length_range] at hw
    have hw1:=hw _ (.inl rfl)
    unfold reachBytes at hw1
    have hone : ∀ i,i<len → ∃ x : α,∃ b off q,a.add (i*Rep.k α)=⟨b,off,none⟩∧wholeM w b=some q∧off+Rep.k α ≤ q.length∧rep (wholeM w) (sl q off (Rep.k α)) x:=by
      intro i him
      obtain ⟨cs',h1,h2⟩:=hel i (by omega)
      rw [he.1] at h1
      obtain ⟨hsp,q,hq,hlq,hsl⟩:=cells_piece h1 hk
      obtain ⟨x,hxr⟩:=he.2 H enc w n cs' (D i) (Pl i) h2 fun nn hnn=>hw nn (.inr (.inl (weightsAll_mem (List.mem_map.2 ⟨i,List.mem_range.2 him,rfl⟩) _ hnn)))
      refine ⟨x,_,_,q,?_,hq,hlq,by rw [hsl];exact hxr⟩
      rw [← hsp]
    by_cases hz:len=0
    · subst hz
      exact ⟨[],.slice (some a) 0 m,rfl,some a,m,rfl,by simp,(fun h=>by cases h),by simp,fun i x hx=>by simp at hx⟩
    have hspot : ∃ b off,a=⟨b,off,none⟩:=by
      obtain ⟨x,b,off,q,e1,_⟩:=hone 0 (by omega)
      obtain ⟨ab,ao,asp⟩:=a
      simp [Addr.add] at e1
      exact ⟨ab,ao,by rw [e1.2.2]⟩
    obtain ⟨b,off,rfl⟩:=hspot
    obtain ⟨x0,_⟩:=hone 0 (by omega)
    haveI:Inhabited α := ⟨x0⟩
    obtain ⟨V,hV⟩:=choose_lt (α := α) hone
    have hlen:((List.range len).map V).length=len:=by simp
    refine ⟨(List.range len).map V,.slice (some ⟨b,off,none⟩) len m,rfl,some ⟨b,off,none⟩,m,by rw [hlen],by rw [hlen];exact hl,(fun h=>by cases h),?_,fun i x hx => ?_⟩
    · rw [hlen]
      exact Nat.le_trans (Nat.mul_le_mul_right _ (by omega:len≤len+(m-len))) hw1
    · have hi:i<len:=by
        have:=(List.getElem?_eq_some_iff.1 hx).1
        omega
      have hxe:V i=x:=by simpa [hi] using hx
      obtain ⟨b',off',q,e1,hq,hlq,hr⟩:=hV i hi
      rw [Addr.add_lit] at e1
      cases e1
      exact ⟨_,_,q,rfl,hq,hlq,hxe ▸ hr⟩⟩
theorem opn_field {H:Type} {enc:TypeId × Value→H} {w:World} {fuel:Nat} {cs:List Value} {d:DataW H} {p:List MemPlace} {fs:Array Field} (ht:P.underlying t=some (.struct fs))
    (h:DataW.trod enc P w 0 (fun _=>true) true fuel t cs=some (d,p)) (hw : ∀ n∈d.weights P t,n≤reachBytes) (i:Nat) (f:Field) (hf:fs[i]? = some f) {e:TypeId} {o k:Nat} (h1:f.type=e) (h2:f.offset=o) (hk:Rep.k α = k) (he:Opn P e α) :
    ∃ x : α,rep (wholeM w) (sl cs o k) x:=by
  subst hk
  subst h1
  subst h2
  obtain ⟨ys,n,_,hx,_,hyl,hfld⟩:=DataW.trod_struct ht h
  obtain ⟨rfl,rfl⟩:=Prod.mk.inj hx
  have hi:i<fs.size:=(Array.getElem?_eq_some_iff.1 hf).1
  have e0:=hfld i f hf
  rw [List.getElem?_eq_getElem (by omega),he.1] at e0
  refine he.2 H enc w n _ _ _ e0 fun nn hnn=>hw nn ?_
  simp only [DataW.weights,ht]
  refine weightsEach_mem (j:=i) ?_ ?_ nn hnn
  · simp only [List.getElem?_map];rw [Array.getElem?_toList,hf];rfl
  · simp only [List.getElem?_map,List.getElem?_eq_getElem (show i<ys.length by omega),Option.map_some];rfl
theorem opn_arg (ho:Opn P t α) {H:Type} {enc:TypeId × Value→H} {w:World} {v:Value} {d:DataW H} {p:List MemPlace} (h:DataW.Trod enc P w 0 (fun _=>true) true t v d p) (hw:(d.weights P t).all (· ≤ reachBytes)=true) :
    ∃ x : α,rep (wholeM w) v.cells.toList x:=by
  obtain ⟨fuel,hf⟩:=h
  exact ho.2 H enc w fuel _ _ _ hf fun n hn=>of_decide_eq_true (List.all_eq_true.1 hw n hn)
theorem opn_row {e:TypeId} (ht:P.underlying t=some (.slice e)) (ho:Opn P t (List α)) {H:Type} {enc:TypeId × Value→H} {w:World} {v:Value} {d:DataW H} {p:List MemPlace} (hv:Value.okWide P w .any 0 t v)
    (h:DataW.Trod enc P w 0 (fun _=>true) true t v d p) (hw:(d.weights P t).all (· ≤ reachBytes)=true) : ∃ l:List α,repL (wholeM w) v l:=by
  obtain ⟨a,len,cap,rfl⟩:=okWide_slice ht hv
  obtain ⟨x,v',hx,hr⟩:=opn_arg ho h hw
  have:v' = .slice a len cap:=by simpa [Value.cells] using hx.symm
  subst this
  exact ⟨x,hr⟩
end
end Go.Proofs.Yteilffoclpgijaa
namespace Go.Proofs.Yteilffoclpgijaa
open Go.RowKit
open Rep (rep)
def g0:GGraph:={ known:=((Zr.zd:Vector Bool 32).setIfInBounds 1 true).setIfInBounds 2 true,deps:=((Zr.zd:Vector (List Int) 32).setIfInBounds 1 [2]).setIfInBounds 2 [1] }
end Go.Proofs.Yteilffoclpgijaa
namespace Go.Proofs.Yteilffoclpgijaa
open Go.RowKit
open Rep (rep)
def stepZ (sh:Int) (s:GNode) (m:Nat):GNode:=bif (eat s.entries m).state==2 then oneZ s m sh else s
def runZ (sh:Int) (s:GNode) (l:List Nat):GNode:=l.foldl (stepZ sh) s
noncomputable def ordL (g:GGraph) (n:Nat):List Nat:=if readyZ g (n:Int)=true then orderS (pathB g) n else []
noncomputable def turnZ (g:GGraph) (sh:Int) (s:GNode) (n:Nat):GNode:=bif (eat s.entries n).state==2 then runZ sh s (ordL g n) else s
noncomputable def execZ (s:GNode) (sh:Int):GNode:=(List.range 32).foldl (turnZ (graphZ s) sh) s
theorem orderZ_castL (g:GGraph) (n:Nat):orderZ g (n:Int)=castL (ordL g n):=by
  unfold orderZ ordL castL
  by_cases h:readyZ g (n:Int)=true
  · rw [if_pos h,if_pos h,Int.toNat_natCast]
  · rw [if_neg h,if_neg h]
    rfl
theorem ordL_lt {g:GGraph} {n:Nat} (hn:n<32) : ∀ m∈ordL g n,m<32:=by
  unfold ordL
  by_cases h:readyZ g (n:Int)=true
  · rw [if_pos h];exact (orderS_ok (pathB_pre g) hn).lt
  · rw [if_neg h];simp
theorem ordL_len {g:GGraph} {n:Nat} (hn:n<32):(ordL g n).length≤32:=by
  unfold ordL
  by_cases h:readyZ g (n:Int)=true
  · rw [if_pos h];exact (orderS_ok (pathB_pre g) hn).len
  · rw [if_neg h];simp
theorem GoodN.step {s:GNode} (h:GoodN s) {m:Nat} (hm:m<32) (sh:Int):GoodN (stepZ sh s m):=by
  unfold stepZ
  cases h2:((eat s.entries m).state==2)
  · exact h
  · exact h.one hm (by simpa using h2) sh
theorem GoodN.run (sh:Int) : ∀ (l:List Nat) {s:GNode},GoodN s→(∀ m∈l,m<32)→GoodN (runZ sh s l)
  | [],_,h,_=>h
  | m::t,_,h,hl=>GoodN.run sh t (h.step (hl m List.mem_cons_self) sh) fun x hx=>hl x (List.mem_cons_of_mem _ hx)
theorem GoodN.turn {s:GNode} (h:GoodN s) {n:Nat} (hn:n<32) (g:GGraph) (sh:Int):GoodN (turnZ g sh s n):=by
  unfold turnZ
  cases ((eat s.entries n).state==2)
  · exact h
  · exact h.run sh _ (ordL_lt hn)
theorem GoodN.turns (g:GGraph) (sh:Int) : ∀ (l:List Nat) {s:GNode},GoodN s→(∀ m∈l,m<32)→GoodN (l.foldl (turnZ g sh) s)
  | [],_,h,_=>h
  | m::t,_,h,hl=>GoodN.turns g sh t (h.turn (hl m List.mem_cons_self) g sh) fun x hx=>hl x (List.mem_cons_of_mem _ hx)
theorem GoodN.exec {s:GNode} (h:GoodN s) (sh:Int):GoodN (execZ s sh):=h.turns _ sh _ fun m hm=>List.mem_range.1 hm
theorem castL_get (l:List Nat) (k:Nat):(castL l)[k]? = (l[k]?).map fun m=>((m:Nat):Int):=by simp [castL]
theorem body_ops {s:GNode} (h:GoodN s) {m:Nat} (hm:m<32) (h2:((eat s.entries m).state==2)=true):KeyOk (eat s.entries m).ops∧(eat s.entries m).ops.length≤4:=by
  have h2:(eat s.entries m).state=2:=by simpa using h2
  have hb:=h.body hm (by omega)
  exact ⟨KeyOk.of hb.ops,(goodOps_len hb.ops).2⟩
theorem nodeExec_l2_eq {fu:Nat} (hfu:5≤fu) {sh y:Int} {rec:GNode→Int→Option GNode} {l:List Nat} (hl : ∀ m∈l,m<32) (hlen:l.length≤32) : ∀ (q m k:Nat) (s:GNode),l.length=k+m→m<q→GoodN s→nodeExec_l2 fu sh y rec (castL l) q s k=nodeExec_j1 y rec (runZ sh s (l.drop k))
  | 0,m,k,s,_,h,_=>absurd h (by omega)
  | q+1,0,k,s,hk,_,_=>by
    rw [nodeExec_l2,castL_len,bif_f (dec_f (by omega)),List.drop_of_length_le (by omega)]
    rfl
  | q+1,m+1,k,s,hk,hq,hs=>by
    have hlt:k<l.length:=by omega
    have hm:=hl _ (List.getElem_mem hlt)
    have ih:=fun s hs=>nodeExec_l2_eq (y:=y) (rec:=rec) (sh:=sh) hfu hl hlen q m (k+1) s (by omega) (by omega) hs
    rw [nodeExec_l2,castL_len,bif_t (dec_t (by omega)),idx_nat,castL_get,List.getElem?_eq_getElem hlt,List.drop_eq_getElem_cons hlt]
    generalize l[k]=x at hm
    simp only [Option.map_some,some_bind,nodeExec_j2,wrs k (by omega)]
    rw [inR_ok (by omega) (by omega),some_bind,idxE hm,some_bind]
    show _=nodeExec_j1 y rec (runZ sh (stepZ sh s x) (l.drop (k+1)))
    have hst:=hs.step hm sh
    unfold stepZ at hst ⊢
    cases h2:((eat s.entries x).state==2)
    · rw [cond_false,cond_false,ih s hs]
    · rw [h2,cond_true] at hst
      obtain ⟨b1,b2⟩:=body_ops hs hm h2
      rw [cond_true,cond_true,nodeOneD_eq hm b1 b2 (by have:=hs.len;omega) hfu,some_bind,ih _ hst]
theorem nodeExec_l1_eq {fu N:Nat} {g:GGraph} (hg:Small g N) (hfu:N+80≤fu) {sh:Int} : ∀ (q m k:Nat) (s:GNode),k+m=32→m<q→GoodN s→nodeExec_l1 fu sh g q s k=some ((List.range' k m).foldl (turnZ g sh) s)
  | 0,m,k,s,_,h,_=>absurd h (by omega)
  | q+1,0,k,s,hk,_,_=>by rw [nodeExec_l1,bif_f (dec_f (by omega)),some_bind];rfl
  | q+1,m+1,k,s,hk,hq,hs=>by
    have hk32:k<32:=by omega
    have ih:=fun s hs=>nodeExec_l1_eq hg hfu (sh:=sh) q m (k+1) s (by omega) (by omega) hs
    rw [nodeExec_l1,bif_t (dec_t (by omega)),inR_ok (by omega) (by omega),some_bind,idxE hk32,some_bind,List.range'_succ,List.foldl_cons]
    have hne:((eat s.entries k).state != 2) = !((eat s.entries k).state==2):=rfl
    have ht:=hs.turn hk32 g sh
    rw [hne]
    unfold turnZ at ht ⊢
    cases h2:((eat s.entries k).state==2)
    · rw [Bool.not_false,cond_true,cond_false,nodeExec_j1,wrs k (by omega),ih s hs]
      rfl
    · rw [h2,cond_true] at ht
      rw [Bool.not_true,cond_false,cond_true,gorderD_eq hg hfu,some_bind,orderZ_castL]
      have h:=nodeExec_l2_eq (fu:=fu) (sh:=sh) (y:=(k:Int)) (rec:=nodeExec_l1 fu sh g q) (by omega) (ordL_lt (g:=g) hk32) (ordL_len (g:=g) hk32) fu (ordL g k).length 0 s (by omega) (by have:=ordL_len (g:=g) hk32;omega) hs
      have h:nodeExec_l2 fu sh k (nodeExec_l1 fu sh g q) (castL (ordL g k)) fu s 0=nodeExec_j1 k (nodeExec_l1 fu sh g q) (runZ sh s (ordL g k)):=h
      rw [h,nodeExec_j1,wrs k (by omega),ih _ ht]
      rfl
theorem GoodN.small {s:GNode} (h:GoodN s):Small (graphZ s) 33:=by
  intro a
  by_cases ha:a<32
  · rw [depsAt_graphZ ha]
    by_cases h0:(eat s.entries a).state=0
    · rw [(h.empty ha h0).2.2.1];simp
    · have:=rising_len (h.body ha h0).deps
      omega
  · unfold depsAt
    rw [dif_neg ha]
    exact ⟨by simp,by simp⟩
theorem cloneIntsD_eq {fu:Nat} {l:List Int} (h:l.length≤17592186043904):cloneIntsD fu l=some l:=by
  have hb:Rep.bytes Int=8:=rfl
  unfold cloneIntsD
  rw [app_ok (by rw [hb];simp only [List.length_nil];omega)]
  rfl
theorem nodeExecD_eq {fu:Nat} {s:GNode} (hs:GoodN s) (hfu:120≤fu) (sh:Int):nodeExecD fu s sh=some (execZ s sh):=by
  unfold nodeExecD
  rw [nodeGraphD_eq (by omega),some_bind,some_bind,cloneIntsD_eq (by have:=hs.len;omega),some_bind,some_bind]
  have h:=nodeExec_l1_eq (fu:=fu) hs.small (by omega) (sh:=sh) fu 32 0 s (by omega) (by omega) hs
  unfold execZ
  rw [List.range_eq_range']
  exact h
def knownF (who id:Int):GFrame:={ kind:=4,node:=who,id:=id,ops:=[],deps:=[],at_:=[],vals:=[] }
def doneF (who id:Int) (x:GEntry):GFrame:={ kind:=5,node:=who,id:=id,ops:=[],deps:=[],at_:=x.at_,vals:=x.values }
def toldF (who id:Int) (l:List Int):GFrame:={ kind:=2,node:=who,id:=id,ops:=[],deps:=l,at_:=[],vals:=[] }
def answers (sh who id:Int) (s:GNode):List GFrame:=bif (eat s.entries id.toNat).state==3&&touchesZ (eat s.entries id.toNat).ops sh then [knownF who id,doneF who id (eat s.entries id.toNat)] else [knownF who id]
def askedE (s:GNode) (f:GFrame) (sh:Int):GEntry:={ state:=1,ops:=f.ops,first:=aheadZ s f.id f.ops sh,deps:=[],at_:=[],values:=[] }
def askN (s:GNode) (f:GFrame) (sh:Int):GNode:=bif (eat s.entries f.id.toNat).state==0 then { s with entries:=s.entries.setIfInBounds f.id.toNat (askedE s f sh) } else s
def firstE (s:GNode) (f:GFrame) (sh:Int):List Int:=bif (eat s.entries f.id.toNat).state==0 then aheadZ s f.id f.ops sh else (eat s.entries f.id.toNat).first
def commE (s:GNode) (f:GFrame) (sh:Int):GEntry:={ state:=2,ops:=f.ops,first:=firstE s f sh,deps:=f.deps,at_:=(eat s.entries f.id.toNat).at_,values:=(eat s.entries f.id.toNat).values }
def commN (s:GNode) (f:GFrame) (sh:Int):GNode:={ s with entries:=s.entries.setIfInBounds f.id.toNat (commE s f sh) }
noncomputable def commitN (s:GNode) (f:GFrame) (sh:Int):GNode:=bif decide ((eat s.entries f.id.toNat).state<2) then execZ (commN s f sh) sh else s
noncomputable def takeK (s:GNode) (who:Int) (f:GFrame):GNode × List GFrame × Int :=
  bif f.kind==1 then bif touchesZ f.ops (ofZ who) then (askN s f (ofZ who),[toldF who f.id (eat (askN s f (ofZ who)).entries f.id.toNat).first],0) else (s,[],4)
  else bif f.kind==3 then (commitN s f (ofZ who),answers (ofZ who) who f.id (commitN s f (ofZ who)),0) else (s,[],3)
noncomputable def takeN (s:GNode) (who:Int) (f:GFrame):GNode × List GFrame × Int :=
  bif goodN s&&(decide (0≤who∧who<6)&&f.node==who) then bif frameZ f==0 then takeK s who f else (s,[],frameZ f) else (s,[],2)
theorem rise_castL {l:List Nat} (h:l.Pairwise (· < ·)) (h32 : ∀ m∈l,m<32):risingZ (castL l)=true:=by
  unfold risingZ
  rw [allTo_iff]
  intro i hi
  rw [castL_len] at hi
  have g : ∀ j,j<l.length→(castL l).getD j 0=((l[j]?.getD 0:Nat):Int):=fun j hj=>by
    simp [castL,hj]
  unfold riseAt
  rw [g i hi,List.getElem?_eq_getElem hi,Option.getD_some]
  have h1:=h32 _ (List.getElem_mem hi)
  rw [dec_t (by omega),dec_t (by omega),Bool.true_and,Bool.true_and]
  by_cases h0:i=0
  · simp [h0]
  · rw [g (i-1) (by omega),List.getElem?_eq_getElem (show i-1<l.length by omega),Option.getD_some]
    have:=List.pairwise_iff_getElem.1 h (i-1) i (by omega) hi (by omega)
    rw [dec_t (by omega),Bool.or_true]
theorem aheadL_mem {s:GNode} {id:Int} {ops:List GOp} {sh:Int} {m:Nat}:m∈aheadL s id ops sh↔m<32∧inWay s id ops sh m=true:=by
  unfold aheadL;simp
theorem ahead_ok {s:GNode} {n:Nat} {ops:List GOp} {sh:Int}:risingZ (aheadZ s n ops sh)=true∧hasZ (aheadZ s n ops sh) n=false:=by
  refine ⟨rise_castL ?_ fun m hm=>(aheadL_mem.1 hm).1,?_⟩
  · exact List.Pairwise.filter _ List.pairwise_lt_range
  · rw [aheadZ,hasZ_castL]
    apply dec_f
    intro h
    have:=(aheadL_mem.1 h).2
    unfold inWay at this
    simp at this
theorem frame_parts {f:GFrame} (h:frameZ f=0):opsPart f=true∧depsPart f=true∧atPart f=true:=by
  unfold frameZ at h
  split at h
  · cases h
  · split at h
    · cases h
    · split at h
      · rename_i h3
        simpa [Bool.and_eq_true] using h3
      · cases h
theorem ask_ops {f:GFrame} (h:frameZ f=0) (hk:f.kind=1∨f.kind=3):goodOpsZ f.ops=true:=by
  have:=(frame_parts h).1
  unfold opsPart at this
  rwa [if_pos hk] at this
theorem comm_deps {f:GFrame} (h:frameZ f=0) (hk:f.kind=3):risingZ f.deps=true∧hasZ f.deps f.id=false:=by
  have:=(frame_parts h).2.1
  unfold depsPart at this
  rw [if_pos (.inr hk)] at this
  simpa [Bool.and_eq_true] using this
theorem GoodN.asked {s:GNode} (h:GoodN s) {f:GFrame} (hf:frameZ f=0) (hk:f.kind=1) (sh:Int):GoodN (askN s f sh):=by
  obtain ⟨_,_,hid⟩:=frameZ_in hf
  obtain ⟨n,hn⟩ : ∃ n:Nat,f.id=n:=⟨f.id.toNat,by omega⟩
  unfold askN
  rw [hn,Int.toNat_natCast]
  cases h0:((eat s.entries n).state==0)
  · exact h
  · have h0:(eat s.entries n).state=0:=by simpa using h0
    refine h.set (n:=n) (by omega) rfl rfl (by omega) ⟨by show (1:Int)≤1;omega,by show (1:Int)≤2;omega⟩ ?_
    have ha:risingZ (aheadZ s f.id f.ops sh)=true∧hasZ (aheadZ s f.id f.ops sh) n=false:=by rw [hn];exact ahead_ok
    exact ⟨ask_ops hf (.inl hk),ha.1,rfl,ha.2,rfl,fun _=>rfl,fun _=>rfl,rfl,rfl⟩
theorem GoodN.comm {s:GNode} (h:GoodN s) {f:GFrame} (hf:frameZ f=0) (hk:f.kind=3) (h2:(eat s.entries f.id.toNat).state<2) (sh:Int):GoodN (commN s f sh):=by
  obtain ⟨_,_,hid⟩:=frameZ_in hf
  obtain ⟨n,hn⟩ : ∃ n:Nat,f.id=n:=⟨f.id.toNat,by omega⟩
  have hn32:n<32:=by omega
  have hto:f.id.toNat=n:=by rw [hn];rfl
  rw [hto] at h2
  have hfi:risingZ (firstE s f sh)=true∧hasZ (firstE s f sh) n=false:=by
    unfold firstE
    rw [hto]
    cases h0:((eat s.entries n).state==0)
    · have hb:=h.body hn32 (by simpa using h0)
      exact ⟨hb.first,hb.nfirst⟩
    · rw [cond_true,hn]
      exact ahead_ok
  have hat:(eat s.entries n).at_=[]∧(eat s.entries n).values=[]:=by
    by_cases h0:(eat s.entries n).state=0
    · exact ⟨(h.empty hn32 h0).2.2.2.1,(h.empty hn32 h0).2.2.2.2⟩
    · have hb:=h.body hn32 h0
      have h1:=hb.undone (by omega)
      have h2:=hb.same
      rw [h1] at h2
      exact ⟨h1,List.length_eq_zero_iff.1 h2.symm⟩
  have hd:=comm_deps hf hk
  rw [hn] at hd
  refine h.set (n:=n) hn32 (e:=commE s f sh) (by rw [← hto];rfl) rfl (by omega) ⟨by show (1:Int)≤2;omega,by show (2:Int)≤2;omega⟩ ?_
  have e1:(commE s f sh).at_=[]:=by rw [← hat.1,← hto];rfl
  have e2:(commE s f sh).values=[]:=by rw [← hat.2,← hto];rfl
  refine ⟨ask_ops hf (.inr hk),hfi.1,hd.1,hfi.2,hd.2,fun h => ?_,fun _=>e1,by rw [e1,e2],by rw [e1];rfl⟩
  have h:(2:Int)=1:=h
  omega
theorem GoodN.commit {s:GNode} (h:GoodN s) {f:GFrame} (hf:frameZ f=0) (hk:f.kind=3) (sh:Int):GoodN (commitN s f sh):=by
  unfold commitN
  by_cases h2:(eat s.entries f.id.toNat).state<2
  · rw [bif_t (dec_t h2)];exact (h.comm hf hk h2 sh).exec sh
  · rw [bif_f (dec_f h2)];exact h
end Go.Proofs.Yteilffoclpgijaa
namespace Go.Proofs.Yteilffoclpgijaa
open Go.RowKit
open Rep (rep)
theorem idxEi {v:Vector GEntry 32} {j:Int} (h0:0≤j) (h1:j<32):idxV v j=some (eat v j.toNat):=by
  obtain ⟨n,rfl⟩ : ∃ n:Nat,j=n:=⟨j.toNat,by omega⟩
  rw [idxE (by omega),Int.toNat_natCast]
theorem nodeIsD_eq {fu:Nat} {x:Int}:nodeIsD fu x=some (decide (0≤x∧x<6)):=by
  unfold nodeIsD nodeIs_j1
  by_cases h:x≥0
  · rw [bif_t (dec_t h)]
    congr 1
    apply decide_eq_decide.2
    omega
  · rw [bif_f (dec_f h),dec_f (by omega)]
theorem nodeTake_j4_eq {who sh:Int} {f:GFrame} {d:GNode} (hf:0≤f.id∧f.id<32):nodeTake_j4 who f sh d=some (d,answers sh who f.id d,0):=by
  unfold nodeTake_j4 nodeTake_j6 nodeTake_j5 answers
  have hb:Rep.bytes GFrame=120:=rfl
  rw [some_bind,inR_ok hf.1 hf.2,some_bind,idxEi hf.1 hf.2,some_bind,some_bind]
  cases ((eat d.entries f.id.toNat).state==3)
  · rfl
  · simp only [cond_true,some_bind,Bool.true_and]
    cases touchesZ (eat d.entries f.id.toNat).ops sh
    · rfl
    · rw [cond_true,app_ok (by rw [hb];simp)]
      rfl
theorem nodeTake_j7_eq {fu:Nat} {s d:GNode} {who sh:Int} {f:GFrame} (hf:0≤f.id∧f.id<32) (hfu:120≤fu) (hg:GoodN (commN s f sh))
    (hd:d.entries=s.entries.setIfInBounds f.id.toNat { eat s.entries f.id.toNat with first:=firstE s f sh }) (ho:d.order=s.order) (hv:d.values=s.values) :
    nodeTake_j7 fu who f sh d=some (execZ (commN s f sh) sh,answers sh who f.id (execZ (commN s f sh) sh),0):=by
  have hn:f.id.toNat<32:=by omega
  obtain ⟨n,hnn⟩ : ∃ n:Nat,f.id=n:=⟨f.id.toNat,by omega⟩
  unfold nodeTake_j7
  have e1 : ∀ (x:Vector GEntry 32),({ d with entries:=x }:GNode).entries=x:=fun _=>rfl
  rw [idxEi hf.1 hf.2,some_bind,setV_in hf.1 hf.2,some_bind,some_bind]
  rw [e1,idxEi hf.1 hf.2,some_bind,eat_setI hn,if_pos rfl,setV_in hf.1 hf.2,some_bind,some_bind]
  simp only [Vector.setIfInBounds_setIfInBounds]
  rw [idxEi hf.1 hf.2,some_bind,eat_setI hn,if_pos rfl,setV_in hf.1 hf.2,some_bind,some_bind]
  simp only [Vector.setIfInBounds_setIfInBounds]
  have hc:({ entries:=d.entries.setIfInBounds f.id.toNat { state:=2,ops:=f.ops,first:=(eat d.entries f.id.toNat).first,deps:=f.deps,at_:=(eat d.entries f.id.toNat).at_,values:=(eat d.entries f.id.toNat).values },order:=d.order,values:=d.values }:GNode)=commN s f sh:=by
    unfold commN commE
    rw [hd,ho,hv,eat_setI hn,if_pos rfl]
    simp only [Vector.setIfInBounds_setIfInBounds]
  rw [hc,nodeExecD_eq hg hfu,some_bind,some_bind,nodeTake_j4_eq hf]
theorem setI_same {v:Vector GEntry 32} {k:Nat} (hk:k<32):v.setIfInBounds k (eat v k)=v:=by
  refine eat_ext fun j hj => ?_
  rw [eat_setI hk]
  by_cases e:k=j
  · rw [if_pos e,e]
  · rw [if_neg e]
theorem nodeTake_j1_eq {fu:Nat} {s:GNode} {who:Int} {f:GFrame} {d:GNode} (hg:GoodN s) (hz:frameZ f=0) (hfu:120≤fu):nodeTake_j1 fu s who f d=some (takeK s who f):=by
  obtain ⟨_,_,hf⟩:=frameZ_in hz
  have hn:f.id.toNat<32:=by omega
  unfold nodeTake_j1 takeK
  rw [hz,some_bind,bif_f (by rfl),some_bind,inR_ok hf.1 hf.2,some_bind]
  cases h1:(f.kind==1)
  · rw [cond_false,cond_false]
    cases h3:(f.kind==3)
    · rfl
    · rw [cond_true,cond_true,idxEi hf.1 hf.2,some_bind,some_bind]
      unfold commitN
      have hk:f.kind=3:=by simpa using h3
      by_cases h2:(eat s.entries f.id.toNat).state<2
      · have hc:=hg.comm hz hk h2 (ofZ who)
        rw [bif_t (dec_t h2),bif_t (dec_t h2)]
        cases h0:((eat s.entries f.id.toNat).state==0)
        · rw [cond_false]
          refine nodeTake_j7_eq hf hfu hc ?_ rfl rfl
          unfold firstE
          rw [h0,cond_false]
          exact (setI_same hn).symm
        · rw [cond_true,nodeAheadD_eq (by omega),some_bind,some_bind,setV_in hf.1 hf.2,some_bind,some_bind]
          refine nodeTake_j7_eq hf hfu hc ?_ rfl rfl
          unfold firstE
          rw [h0,cond_true]
      · rw [bif_f (dec_f h2),bif_f (dec_f h2),nodeTake_j4_eq hf]
  · rw [cond_true,cond_true,some_bind]
    cases touchesZ f.ops (ofZ who)
    · rfl
    · rw [bif_f (c := !true) rfl,cond_true,idxEi hf.1 hf.2,some_bind]
      unfold askN
      cases h0:((eat s.entries f.id.toNat).state==0)
      · rw [cond_false,cond_false,nodeTake_j2,idxEi hf.1 hf.2]
        rfl
      · rw [cond_true,nodeAheadD_eq (by omega),some_bind,some_bind,some_bind,setV_in hf.1 hf.2,some_bind,some_bind,nodeTake_j2,idxEi hf.1 hf.2]
        rfl
theorem nodeTakeD_eq {fu N:Nat} {s:GNode} {who:Int} {f:GFrame} (hs:NSz s N) (h1:N+40≤fu) (hfu:120≤fu):nodeTakeD fu s who f=some (takeN s who f):=by
  unfold nodeTakeD takeN
  rw [nodeGoodD_eq hs h1,some_bind]
  cases hg:goodN s
  · rfl
  · have hg:=goodN_iff.1 hg
    rw [bif_f (c := !true) rfl,nodeIsD_eq,some_bind,Bool.true_and]
    cases decide (0≤who∧who<6)
    · rfl
    · rw [bif_f (c := !true) rfl,Bool.true_and]
      unfold nodeTake_j8
      have hne:(f.node != who) = !(f.node==who):=rfl
      rw [hne]
      cases (f.node==who)
      · rfl
      · rw [Bool.not_true,cond_false,cond_true]
        cases hz:(frameZ f==0)
        · unfold nodeTake_j1
          have:(frameZ f != 0)=true:=by rw [bne,hz];rfl
          rw [some_bind,this]
          rfl
        · exact nodeTake_j1_eq hg (by simpa using hz) hfu
theorem atUp_len {m:Int} : ∀ {l:List Int} {b:Int},atUp m b l=true→l=[]∨b+l.length<m
  | [],_,_ => .inl rfl
  | x::t,b,h=>by
    unfold atUp at h
    simp only [Bool.and_eq_true,decide_eq_true_eq] at h
    refine .inr ?_
    rcases atUp_len h.2 with e | e
    · subst e;simp;omega
    · simp only [List.length_cons];omega
theorem GoodN.sizes {s:GNode} (h:GoodN s):NSz s 33:=by
  refine ⟨by have:=h.len;omega,fun k => ?_⟩
  by_cases hk:k<32
  · by_cases h0:(eat s.entries k).state=0
    · obtain ⟨e1,e2,e3,e4,e5⟩:=h.empty hk h0
      refine ⟨?_,?_,?_,?_,?_⟩
      · rw [e1];simp
      · rw [e2];simp
      · rw [e3];simp
      · rw [e4];simp
      · rw [e5];simp
    · have hb:=h.body hk h0
      have h1:=goodOps_len hb.ops
      have h2:=rising_len hb.first
      have h3:=rising_len hb.deps
      have h4:(eat s.entries k).at_.length≤4:=by
        rcases atUp_len hb.up with e | e
        · rw [e];simp
        · omega
      have h5:=hb.same
      exact ⟨by omega,by omega,by omega,by omega,by omega⟩
  · rw [eat_out hk]
    have e:(Zr.zd:GEntry)={ state:=0,ops:=[],first:=[],deps:=[],at_:=[],values:=[] }:=rfl
    rw [e]
    exact ⟨by simp,by simp,by simp,by simp,by simp⟩
theorem NSz.mono {s:GNode} {N M:Nat} (h:NSz s N) (hNM:N≤M):NSz s M :=
  ⟨⟨by have:=h.order.1;omega,h.order.2⟩,fun k=>by
    have e:=h.ent k
    exact ⟨⟨by have:=e.ops.1;omega,e.ops.2⟩,⟨by have:=e.first.1;omega,e.first.2⟩,⟨by have:=e.deps.1;omega,e.deps.2⟩,⟨by have:=e.at_.1;omega,e.at_.2⟩,⟨by have:=e.values.1;omega,e.values.2⟩⟩⟩
def zeroN:GNode:={ entries:=Zr.zd,order:=Zr.zd,values:=Zr.zd }
theorem eat_zero (k:Nat):eat (Zr.zd:Vector GEntry 32) k=Zr.zd:=by
  show eat (Vector.replicate 32 Zr.zd) k=Zr.zd
  unfold eat
  by_cases hk:k<32<;>simp [hk]
theorem zero_good:GoodN zeroN:=by
  refine ⟨List.nodup_nil,(by intro m hm;cases hm),fun k hk => ?_⟩
  show entryOk k (eat (Zr.zd:Vector GEntry 32) k) (decide ((k:Int)∈([]:List Int)))=true
  rw [eat_zero]
  rfl
def f9:GFrame:={ kind:=3,node:=3,id:=4,ops:=[{ kind:=2,key:=1,n:=9 }],deps:=[],at_:=[],vals:=[] }
end Go.Proofs.Yteilffoclpgijaa
namespace Go.Proofs.Yteilffoclpgijaa
open Go.RowKit
open Rep (rep)
theorem ESz.mono {e:GEntry} {N M:Nat} (h:ESz e N) (hNM:N≤M):ESz e M :=
  ⟨⟨by have:=h.ops.1;omega,h.ops.2⟩,⟨by have:=h.first.1;omega,h.first.2⟩,⟨by have:=h.deps.1;omega,h.deps.2⟩,⟨by have:=h.at_.1;omega,h.at_.2⟩,⟨by have:=h.values.1;omega,h.values.2⟩⟩
end Go.Proofs.Yteilffoclpgijaa
namespace Go.Proofs.Yteilffoclpgijaa
open Go.RowKit
open Rep (rep)
set_option linter.unusedVariables false
def Bytes (l:List Int):Prop := ∀ c∈l,0≤c∧c<256
theorem sixV_sixZ {n:Int} (h1 : -1099511627776≤n) (h2:n≤1099511627776):sixV ((n+140737488355328) / 1099511627776%256) ((n+140737488355328) / 4294967296%256) ((n+140737488355328) / 16777216%256) ((n+140737488355328) / 65536%256) ((n+140737488355328) / 256%256) ((n+140737488355328)%256)=n:=by
  unfold sixV
  omega
theorem pOps_enc {r:List Int} : ∀ (os:List GOp),(∀ o∈os,-1099511627776≤o.n∧o.n≤1099511627776)→pOps os.length (os.flatMap opBytes++r)=some (os,r)
  | [],_=>rfl
  | o::t,h=>by
    have h0:=h o List.mem_cons_self
    have ih:=pOps_enc (r:=r) t fun x hx=>h x (List.mem_cons_of_mem _ hx)
    have e:(o::t).flatMap opBytes++r=o.kind::o.key::(o.n+140737488355328) / 1099511627776%256::(o.n+140737488355328) / 4294967296%256::(o.n+140737488355328) / 16777216%256::(o.n+140737488355328) / 65536%256::(o.n+140737488355328) / 256%256::(o.n+140737488355328)%256::(t.flatMap opBytes++r):=rfl
    rw [e,List.length_cons,pOps,ih,sixV_sixZ h0.1 h0.2]
    rfl
theorem pAts_enc {r:List Int} : ∀ (ats vs:List Int),vs.length=ats.length→(∀ v∈vs,-1099511627776≤v∧v≤1099511627776)→pAts ats.length ((ats.zip vs).flatMap valBytes++r)=some (ats,vs,r)
  | [],[],_,_=>rfl
  | [],_::_,h,_=>by simp at h
  | _::_,[],h,_=>by simp at h
  | a::ats,v::vs,hl,h=>by
    have h0:=h v List.mem_cons_self
    have ih:=pAts_enc (r:=r) ats vs (by simpa using hl) fun x hx=>h x (List.mem_cons_of_mem _ hx)
    have e:((a::ats).zip (v::vs)).flatMap valBytes++r=a::(v+140737488355328) / 1099511627776%256::(v+140737488355328) / 4294967296%256::(v+140737488355328) / 16777216%256::(v+140737488355328) / 65536%256::(v+140737488355328) / 256%256::(v+140737488355328)%256::((ats.zip vs).flatMap valBytes++r):=rfl
    rw [e,List.length_cons,pAts,ih,sixV_sixZ h0.1 h0.2]
    rfl
theorem parse_enc {f:GFrame} (hf:FOk f) (r:List Int):parseR (encZ f++r)=some (f,r):=by
  have e:encZ f++r=f.kind::f.node::f.id::(f.ops.length:Int)::(f.ops.flatMap opBytes++((f.deps.length:Int)::(f.deps++((f.at_.length:Int)::((f.at_.zip f.vals).flatMap valBytes++r))))):=by
    unfold encZ
    simp [List.append_assoc]
  have h1:=pOps_enc (r:=(f.deps.length:Int)::(f.deps++((f.at_.length:Int)::((f.at_.zip f.vals).flatMap valBytes++r)))) f.ops fun o ho=>by have:=hf.op o ho;omega
  have h2:=pAts_enc (r:=r) f.at_ f.vals hf.vals hf.val
  have t1:((f.ops.length:Int)).toNat=f.ops.length:=rfl
  have t2:((f.deps.length:Int)).toNat=f.deps.length:=rfl
  have t3:((f.at_.length:Int)).toNat=f.at_.length:=rfl
  rw [e,parseR,t1,h1]
  simp only [Option.bind_some]
  rw [pRest,t2,pDeps,if_pos (by simp)]
  simp only [Option.bind_some]
  rw [List.take_left' rfl,List.drop_left' rfl,pTail,t3,h2]
  rfl
theorem byL_str {l:List Int} (h:Bytes l):byL (strOfNums l)=l:=by
  unfold byL
  rw [strOfNums_data,List.map_map]
  have : ∀ x∈l,((fun b:UInt8=>(b.toNat:Int)) ∘ fun n:Int=>UInt8.ofNat n.toNat) x=x:=by
    intro x hx
    have:=h x hx
    show (((UInt8.ofNat x.toNat).toNat:Nat):Int)=x
    rw [UInt8.toNat_ofNat_of_lt' (by show x.toNat<256;omega)]
    omega
  rw [List.map_congr_left this]
  simp
theorem enc_bytes {f:GFrame} (hf:FOk f):Bytes (encZ f)∧(encZ f).length≤100:=by
  have six : ∀ (n c:Int),c∈sixZ n→0≤c∧c<256:=by
    intro n c hc
    unfold sixZ at hc
    simp only [List.mem_cons,List.not_mem_nil,or_false] at hc
    omega
  have hlen6 : ∀ n,(sixZ n).length=6:=fun n=>rfl
  have h1 : ∀ (os:List GOp),(os.flatMap opBytes).length=8*os.length:=by
    intro os
    induction os with
    | nil=>rfl
    | cons o t ih =>
      have e0:opBytes o=[o.kind,o.key]++sixZ o.n:=rfl
      rw [List.flatMap_cons,List.length_append,ih,e0]
      simp [hlen6]
      omega
  have h2 : ∀ (zs:List (Int × Int)),(zs.flatMap valBytes).length=7*zs.length:=by
    intro zs
    induction zs with
    | nil=>rfl
    | cons z t ih =>
      have e0:valBytes z=z.1::sixZ z.2:=rfl
      rw [List.flatMap_cons,List.length_append,ih,e0]
      simp [hlen6]
      omega
  have hh:=hf.head
  have ho:=hf.ops
  have hd:=hf.deps
  have ha:=hf.at_
  refine ⟨fun c hc => ?_,?_⟩
  · unfold encZ at hc
    simp only [List.mem_append,List.mem_cons,List.not_mem_nil,or_false,List.mem_flatMap] at hc
    rcases hc with (h | h | h | h) | ⟨o,h,hx⟩ | h | h | h | ⟨z,h,hx⟩
    · omega
    · omega
    · omega
    · omega
    · have:=hf.op o h
      have e0:opBytes o=[o.kind,o.key]++sixZ o.n:=rfl
      rw [e0] at hx
      simp only [List.mem_append,List.mem_cons,List.not_mem_nil,or_false] at hx
      rcases hx with (h | h) | h
      · omega
      · omega
      · exact six _ _ h
    · omega
    · have:=hf.dep c h;omega
    · omega
    · have e0:valBytes z=z.1::sixZ z.2:=rfl
      rw [e0] at hx
      rcases List.mem_cons.1 hx with h3 | h3
      · have:=hf.ats z.1 (List.of_mem_zip h).1
        omega
      · exact six _ _ h3
  · unfold encZ
    simp only [List.length_append,List.length_cons,List.length_nil,h1,h2,List.length_zip]
    omega
theorem decZ_cases (l:List Int):(∃ f,parseR l=some (f,[])∧frameZ f=0∧decZ l=(f,0))∨decZ l=(noF,1):=by
  unfold decZ
  match h:parseR l with
  | none=>exact .inr rfl
  | some (f,[]) =>
    by_cases hz:frameZ f=0
    · left
      refine ⟨f,rfl,hz,?_⟩
      show (bif frameZ f==0 then (f,0) else (noF,(1:Int)))=_
      rw [hz];rfl
    · right
      have e2:(frameZ f==0)=false:=by simp [hz]
      show (bif frameZ f==0 then (f,0) else (noF,(1:Int)))=_
      rw [e2];rfl
  | some (f,_::_)=>exact .inr rfl
end Go.Proofs.Yteilffoclpgijaa
namespace Go.Proofs.Yteilffoclpgijaa
open Go.RowKit
open Rep (rep)
theorem takeN_no {s:GNode} {who:Int} {f:GFrame} (h:(takeN s who f).2.2≠0):(takeN s who f).1=s∧(takeN s who f).2.1=[]:=by
  unfold takeN at *
  cases hc:(goodN s&&(decide (0≤who∧who<6)&&f.node==who))
  · exact ⟨rfl,rfl⟩
  · rw [hc,cond_true] at h
    rw [cond_true]
    cases hz:(frameZ f==0)
    · exact ⟨rfl,rfl⟩
    · rw [hz,cond_true] at h
      rw [cond_true]
      unfold takeK at *
      cases h1:(f.kind==1)
      · rw [h1,cond_false] at h
        cases h3:(f.kind==3)
        · exact ⟨rfl,rfl⟩
        · rw [h3,cond_true] at h
          exact absurd rfl h
      · rw [h1,cond_true] at h
        cases ht:touchesZ f.ops (ofZ who)
        · exact ⟨rfl,rfl⟩
        · rw [ht,cond_true] at h
          exact absurd rfl h
theorem takeN_of {s:GNode} {who:Int} {f:GFrame} (hs:GoodN s) (hw:0≤who∧who<6) (hn:f.node=who) (hz:frameZ f=0):takeN s who f=takeK s who f:=by
  unfold takeN
  rw [goodN_iff.2 hs,hz,dec_t hw,hn]
  simp
theorem takeK_ask {s:GNode} {who:Int} {f:GFrame} (h1:f.kind=1) (ht:touchesZ f.ops (ofZ who)=true):takeK s who f=(askN s f (ofZ who),[toldF who f.id (eat (askN s f (ofZ who)).entries f.id.toNat).first],0):=by
  unfold takeK
  rw [bif_t (by simp [h1]),ht]
  rfl
theorem takeK_commit {s:GNode} {who:Int} {f:GFrame} (h3:f.kind=3):takeK s who f=(commitN s f (ofZ who),answers (ofZ who) who f.id (commitN s f (ofZ who)),0):=by
  unfold takeK
  rw [bif_f (by simp [h3]),bif_t (by simp [h3])]
theorem takeN_ok {s:GNode} {who:Int} {f:GFrame} (h:(takeN s who f).2.2=0):GoodN s∧(0≤who∧who<6)∧f.node=who∧frameZ f=0∧((f.kind=1∧touchesZ f.ops (ofZ who)=true)∨f.kind=3):=by
  unfold takeN at h
  cases hc:(goodN s&&(decide (0≤who∧who<6)&&f.node==who))
  · rw [hc] at h
    exact absurd (show (2:Int)=0 from h) (by decide)
  · rw [hc,cond_true] at h
    simp only [Bool.and_eq_true,decide_eq_true_eq,beq_iff_eq] at hc
    cases hz:(frameZ f==0)
    · rw [hz] at h
      have h:frameZ f=0:=h
      rw [h] at hz
      cases hz
    · rw [hz,cond_true] at h
      refine ⟨goodN_iff.1 hc.1,hc.2.1,hc.2.2,by simpa using hz,?_⟩
      unfold takeK at h
      cases h1:(f.kind==1)
      · rw [h1,cond_false] at h
        cases h3:(f.kind==3)
        · rw [h3] at h
          exact absurd (show (3:Int)=0 from h) (by decide)
        · exact .inr (by simpa using h3)
      · rw [h1,cond_true] at h
        cases ht:touchesZ f.ops (ofZ who)
        · rw [ht] at h
          exact absurd (show (4:Int)=0 from h) (by decide)
        · exact .inl ⟨by simpa using h1,rfl⟩
structure Ex (s t:GNode):Prop where
  ent : ∀ k,k<32→eat t.entries k=eat s.entries k∨((eat s.entries k).state=2 ∧ ∃ a b,eat t.entries k=doneE (eat s.entries k) a b)
  order : ∃ L,t.order=s.order++L
theorem Ex.refl (s:GNode):Ex s s:=⟨fun _ _ => .inl rfl,[],by simp⟩
theorem Ex.trans {s t u:GNode} (h:Ex s t) (k:Ex t u):Ex s u:=by
  refine ⟨fun j hj => ?_,?_⟩
  · rcases h.ent j hj with e | ⟨e2,a,b,e⟩
    · rcases k.ent j hj with e' | ⟨e2',a,b,e'⟩
      · exact .inl (e'.trans e)
      · rw [e] at e2' e'
        exact .inr ⟨e2',a,b,e'⟩
    · rcases k.ent j hj with e' | ⟨e2',_⟩
      · exact .inr ⟨e2,a,b,e'.trans e⟩
      · rw [e] at e2'
        exact absurd (show (3:Int)=2 from e2') (by decide)
  · obtain ⟨L,h1⟩:=h.order
    obtain ⟨L',h2⟩:=k.order
    exact ⟨L++L',by rw [h2,h1,List.append_assoc]⟩
theorem Ex.one {s:GNode} {n:Nat} (hn:n<32) (h2:(eat s.entries n).state=2) (sh:Int):Ex s (oneZ s n sh):=by
  refine ⟨fun k hk => ?_,_,rfl⟩
  show eat (s.entries.setIfInBounds n _) k=_∨_ ∧ ∃ a b,eat (s.entries.setIfInBounds n _) k=_
  rw [eat_setI hn]
  by_cases e:n=k
  · subst e
    rw [if_pos rfl]
    exact .inr ⟨h2,_,_,rfl⟩
  · rw [if_neg e]
    exact .inl rfl
theorem Ex.step {s:GNode} {m:Nat} (hm:m<32) (sh:Int):Ex s (stepZ sh s m):=by
  unfold stepZ
  cases h2:((eat s.entries m).state==2)
  · exact .refl s
  · exact .one hm (by simpa using h2) sh
theorem Ex.run (sh:Int) : ∀ (l:List Nat) (s:GNode),(∀ m∈l,m<32)→Ex s (runZ sh s l)
  | [],s,_ => .refl s
  | m::t,_,hl=>(Ex.step (hl m List.mem_cons_self) sh).trans (Ex.run sh t _ fun x hx=>hl x (List.mem_cons_of_mem _ hx))
theorem Ex.turn {s:GNode} {n:Nat} (hn:n<32) (g:GGraph) (sh:Int):Ex s (turnZ g sh s n):=by
  unfold turnZ
  cases ((eat s.entries n).state==2)
  · exact .refl s
  · exact Ex.run sh _ s (ordL_lt hn)
theorem Ex.turns (g:GGraph) (sh:Int) : ∀ (l:List Nat) (s:GNode),(∀ m∈l,m<32)→Ex s (l.foldl (turnZ g sh) s)
  | [],s,_ => .refl s
  | m::t,_,hl=>(Ex.turn (hl m List.mem_cons_self) g sh).trans (Ex.turns g sh t _ fun x hx=>hl x (List.mem_cons_of_mem _ hx))
theorem Ex.exec (s:GNode) (sh:Int):Ex s (execZ s sh):=Ex.turns _ sh _ s fun m hm=>List.mem_range.1 hm
structure Kp (x y:GEntry):Prop where
  state:x.state≤y.state
  first:x.state≠0→x.first=y.first
  body:2≤x.state→x.deps=y.deps∧x.ops=y.ops
  done:x.state=3→x=y
theorem Kp.refl (x:GEntry):Kp x x:=⟨Int.le_refl _,fun _=>rfl,fun _=>⟨rfl,rfl⟩,fun _=>rfl⟩
theorem Kp.trans {x y z:GEntry} (h0:0≤x.state) (h:Kp x y) (k:Kp y z):Kp x z:=by
  have h1:=h.state
  refine ⟨Int.le_trans h.state k.state,fun hx=>(h.first hx).trans (k.first (by omega)),fun hx => ?_,fun hx => ?_⟩
  · obtain ⟨a,b⟩:=h.body hx
    obtain ⟨c,d⟩:=k.body (by omega)
    exact ⟨a.trans c,b.trans d⟩
  · have e:=h.done hx
    rw [e]
    exact k.done (by rw [← e];exact hx)
theorem Ex.kp {s t:GNode} (h:Ex s t) {k:Nat} (hk:k<32):Kp (eat s.entries k) (eat t.entries k):=by
  rcases h.ent k hk with e | ⟨e2,a,b,e⟩
  · rw [e];exact .refl _
  · rw [e]
    refine ⟨?_,fun _=>rfl,fun _=>⟨rfl,rfl⟩,fun h3=>by omega⟩
    rw [e2]
    show (2:Int)≤3
    omega
structure KeepN (s t:GNode):Prop where
  ent : ∀ k,k<32→Kp (eat s.entries k) (eat t.entries k)
  order : ∃ L,t.order=s.order++L
theorem KeepN.refl (s:GNode):KeepN s s:=⟨fun _ _ => .refl _,[],by simp⟩
theorem askN_keep {s:GNode} {f:GFrame} (hf:0≤f.id∧f.id<32) (sh:Int):KeepN s (askN s f sh):=by
  have hn:f.id.toNat<32:=by omega
  unfold askN
  cases h0:((eat s.entries f.id.toNat).state==0)
  · exact .refl s
  · have h0:(eat s.entries f.id.toNat).state=0:=by simpa using h0
    refine ⟨fun k hk => ?_,[],by simp⟩
    show Kp _ (eat (s.entries.setIfInBounds _ _) k)
    rw [eat_setI hn]
    by_cases e:f.id.toNat=k
    · rw [if_pos e,← e]
      refine ⟨?_,fun h=>absurd h0 h,fun h=>by omega,fun h=>by omega⟩
      rw [h0]
      show (0:Int)≤1
      omega
    · rw [if_neg e];exact .refl _
theorem commN_keep {s:GNode} {f:GFrame} (hf:0≤f.id∧f.id<32) (h2:(eat s.entries f.id.toNat).state<2) (sh:Int) {k:Nat}:Kp (eat s.entries k) (eat (commN s f sh).entries k):=by
  have hn:f.id.toNat<32:=by omega
  show Kp _ (eat (s.entries.setIfInBounds _ _) k)
  rw [eat_setI hn]
  by_cases e:f.id.toNat=k
  · rw [if_pos e,← e]
    refine ⟨?_,fun h => ?_,fun h=>by omega,fun h=>by omega⟩
    · show _≤(2:Int)
      omega
    · show _=firstE s f sh
      unfold firstE
      rw [bif_f (by simpa using h)]
  · rw [if_neg e];exact .refl _
theorem commitN_keep {s:GNode} (hs:GoodN s) {f:GFrame} (hf:0≤f.id∧f.id<32) (sh:Int):KeepN s (commitN s f sh):=by
  unfold commitN
  by_cases h2:(eat s.entries f.id.toNat).state<2
  · rw [bif_t (dec_t h2)]
    have hx:=Ex.exec (commN s f sh) sh
    exact ⟨fun k hk=>Kp.trans (hs.state hk).1 (commN_keep hf h2 sh) (hx.kp hk),hx.order⟩
  · rw [bif_f (dec_f h2)];exact .refl s
theorem takeN_keep {s:GNode} {who:Int} {f:GFrame}:KeepN s (takeN s who f).1:=by
  by_cases h:(takeN s who f).2.2=0
  · obtain ⟨hs,hw,hn,hz,hk⟩:=takeN_ok h
    obtain ⟨_,_,hf⟩:=frameZ_in hz
    rw [takeN_of hs hw hn hz]
    rcases hk with ⟨h1,ht⟩ | h3
    · rw [takeK_ask h1 ht];exact askN_keep hf _
    · rw [takeK_commit h3];exact commitN_keep hs hf _
  · rw [(takeN_no h).1];exact .refl s
theorem takeN_good {s:GNode} {who:Int} {f:GFrame} (h:(takeN s who f).2.2=0):GoodN (takeN s who f).1:=by
  obtain ⟨hs,hw,hn,hz,hk⟩:=takeN_ok h
  rw [takeN_of hs hw hn hz]
  rcases hk with ⟨h1,ht⟩ | h3
  · rw [takeK_ask h1 ht];exact hs.asked hz h1 _
  · rw [takeK_commit h3];exact hs.commit hz h3 _
theorem commitN_state {s:GNode} {f:GFrame} (hf:0≤f.id∧f.id<32) (sh:Int):2≤(eat (commitN s f sh).entries f.id.toNat).state:=by
  have hn:f.id.toNat<32:=by omega
  unfold commitN
  by_cases h2:(eat s.entries f.id.toNat).state<2
  · rw [bif_t (dec_t h2)]
    have h:=((Ex.exec (commN s f sh) sh).kp hn).state
    have e:(eat (commN s f sh).entries f.id.toNat).state=2:=by
      show (eat (s.entries.setIfInBounds _ _) _).state=2
      rw [eat_setI hn,if_pos rfl]
      rfl
    omega
  · rw [bif_f (dec_f h2)]
    omega
theorem takeN_small {s:GNode} {who:Int} {f:GFrame} (h:(takeN s who f).2.2=0):(takeN s who f).2.1.length≤100 ∧ ∀ x∈(takeN s who f).2.1,x.ops.length≤100∧x.deps.length≤100∧x.at_.length≤100∧x.vals.length≤100:=by
  have hz:=(takeN_good h).sizes
  obtain ⟨hs,hw,hn,hf,hk⟩:=takeN_ok h
  rw [takeN_of hs hw hn hf] at hz ⊢
  rcases hk with ⟨h1,ht⟩ | h3
  · rw [takeK_ask h1 ht] at hz ⊢
    have hz:NSz (askN s f (ofZ who)) 33:=hz
    refine ⟨by simp,fun x hx => ?_⟩
    have hx:=List.mem_singleton.1 hx
    have:=(hz.ent f.id.toNat).first.1
    rw [hx]
    exact ⟨by simp [toldF],by show (eat _ _).first.length≤100;omega,by simp [toldF],by simp [toldF]⟩
  · rw [takeK_commit h3] at hz ⊢
    have hz:NSz (commitN s f (ofZ who)) 33:=hz
    have h1:=(hz.ent f.id.toNat).at_.1
    have h2:=(hz.ent f.id.toNat).values.1
    show (answers _ _ _ _).length≤100 ∧ ∀ x∈answers _ _ _ _,_
    unfold answers
    have hkn : ∀ x,x=knownF who f.id→x.ops.length≤100∧x.deps.length≤100∧x.at_.length≤100∧x.vals.length≤100:=by
      rintro x rfl
      exact ⟨by simp [knownF],by simp [knownF],by simp [knownF],by simp [knownF]⟩
    cases ((eat (commitN s f (ofZ who)).entries f.id.toNat).state==3&&touchesZ (eat (commitN s f (ofZ who)).entries f.id.toNat).ops (ofZ who))
    · exact ⟨by simp,fun x hx=>hkn x (List.mem_singleton.1 hx)⟩
    · refine ⟨by simp,fun x hx => ?_⟩
      rcases List.mem_cons.1 hx with hx | hx
      · exact hkn x hx
      · have hx:=List.mem_singleton.1 hx
        rw [hx]
        exact ⟨by simp [doneF],by simp [doneF],by show (eat _ _).at_.length≤100;omega,by show (eat _ _).values.length≤100;omega⟩
end Go.Proofs.Yteilffoclpgijaa
namespace Go.Proofs.Yteilffoclpgijaa
open Go.RowKit
open Rep (rep)
noncomputable def replayZ (who:Int):List ByteArray→GNode→GNode × Int
  | [],s=>(s,0)
  | x::t,s=>bif (decZ (byL x)).2 != 0 then (zeroN,(decZ (byL x)).2) else bif (takeN s who (decZ (byL x)).1).2.2 != 0 then (zeroN,(takeN s who (decZ (byL x)).1).2.2) else replayZ who t (takeN s who (decZ (byL x)).1).1
theorem replayZ_good {who:Int} : ∀ (l:List ByteArray) {s:GNode},GoodN s→GoodN (replayZ who l s).1
  | [],_,h=>h
  | x::t,s,h=>by
    unfold replayZ
    cases h1:((decZ (byL x)).2 != 0)
    · rw [cond_false]
      cases h2:((takeN s who (decZ (byL x)).1).2.2 != 0)
      · rw [cond_false]
        exact replayZ_good t (takeN_good (by simpa using h2))
      · exact zero_good
    · exact zero_good
theorem nodeReplay_l1_eq {fu:Nat} (hfu:300≤fu) {who:Int} {l:List ByteArray} (hl:l.length≤17592186043904) (hs : ∀ x∈l,x.size≤140737488351232) (z:GNode) : ∀ (n m k:Nat) (s:GNode),l.length=k+m→m<n→GoodN s→nodeReplay_l1 fu who l n s z k=some (replayZ who (l.drop k) s)
  | 0,m,k,_,_,h,_=>absurd h (by omega)
  | n+1,0,k,s,hk,_,_=>by
    rw [nodeReplay_l1,bif_f (dec_f (by omega)),some_bind,List.drop_of_length_le (by omega)]
    rfl
  | n+1,m+1,k,s,hk,hn,hg=>by
    have hlt:k<l.length:=by omega
    have hx:=hs _ (List.getElem_mem hlt)
    have ih:=fun s hg=>nodeReplay_l1_eq hfu hl hs (who:=who) z n m (k+1) s (by omega) (by omega) hg
    rw [nodeReplay_l1,bif_t (dec_t (by omega)),idx_nat,List.getElem?_eq_getElem hlt,some_bind,decodeD_eq (by omega) hx,some_bind,some_bind,List.drop_eq_getElem_cons hlt]
    generalize l[k]=x
    rw [replayZ,wrs k (by omega)]
    cases h1:((decZ (byL x)).2 != 0)
    · rw [cond_false,cond_false,nodeTakeD_eq hg.sizes (by omega) (by omega),some_bind,some_bind]
      cases h2:((takeN s who (decZ (byL x)).1).2.2 != 0)
      · rw [cond_false,cond_false]
        exact ih _ (takeN_good (by simpa using h2))
      · rfl
    · rfl
theorem nodeReplayD_eq {fu:Nat} {who:Int} {l:List ByteArray} (hfu:l.length+300≤fu) (hl:l.length≤17592186043904) (hs : ∀ x∈l,x.size≤140737488351232):nodeReplayD fu who l=some (bif decide (0≤who∧who<6) then replayZ who l zeroN else (zeroN,2)):=by
  unfold nodeReplayD
  rw [nodeIsD_eq,some_bind]
  cases decide (0≤who∧who<6)
  · rfl
  · rw [bif_f (c := !true) rfl,cond_true]
    exact nodeReplay_l1_eq (by omega) hl hs _ fu l.length 0 zeroN (by omega) (by omega) zero_good
theorem dec_enc {f:GFrame} (hz:frameZ f=0):(encP f).2=0∧decZ (byL (encP f).1)=(f,0)∧(encP f).1.size≤100:=by
  have hf:=FOk_of hz
  obtain ⟨hb,hl⟩:=enc_bytes hf
  have hby:=byL_str hb
  have hsz:=byL_len (strOfNums (encZ f))
  rw [hby] at hsz
  have hpar:=parse_enc hf []
  rw [List.append_nil] at hpar
  unfold encP
  rw [if_pos hz]
  refine ⟨rfl,?_,by show (strOfNums (encZ f)).size≤100;omega⟩
  show decZ (byL (strOfNums (encZ f)))=_
  rw [hby]
  unfold decZ
  rw [hpar]
  show (bif frameZ f==0 then (f,0) else (noF,(1:Int)))=_
  rw [hz];rfl
theorem replayZ_snoc {who:Int} {x:ByteArray} : ∀ (l:List ByteArray) (s t:GNode),replayZ who l s=(t,0)→replayZ who (l++[x]) s=replayZ who [x] t
  | [],s,t,h=>by
    have:s=t:=congrArg Prod.fst h
    rw [this]
    rfl
  | y::l,s,t,h=>by
    rw [replayZ] at h
    rw [List.cons_append,replayZ]
    cases h1:((decZ (byL y)).2 != 0)
    · rw [h1,cond_false] at h
      rw [cond_false]
      cases h2:((takeN s who (decZ (byL y)).1).2.2 != 0)
      · rw [h2,cond_false] at h
        rw [cond_false]
        exact replayZ_snoc l _ t h
      · rw [h2,cond_true] at h
        have h:(takeN s who (decZ (byL y)).1).2.2=0:=congrArg Prod.snd h
        rw [h] at h2
        cases h2
    · rw [h1,cond_true] at h
      have h:(decZ (byL y)).2=0:=congrArg Prod.snd h
      rw [h] at h1
      cases h1
end Go.Proofs.Yteilffoclpgijaa
namespace Go.Proofs.Yteilffoclpgijaa
open Go.RowKit
open Rep (rep)
section
variable {α : Type} [Rep α] [Zr α] {n:Nat}
def vget (v:Vector α n) (k:Nat) : α := v[k]?.getD Zr.zd
theorem idxG {v:Vector α n} {j:Int} (h0:0≤j) (h1:j<n):idxV v j=some (vget v j.toNat):=by
  have h:j.toNat<n:=by omega
  unfold idxV vget
  rw [if_pos h0]
  simp [h]
theorem vget_set {v:Vector α n} {k j:Nat} {x : α} (hk:k<n):vget (v.setIfInBounds k x) j=if k=j then x else vget v j:=by
  unfold vget
  rw [Vector.getElem?_setIfInBounds]
  by_cases e:k=j
  · rw [if_pos e,if_pos e,if_pos hk];rfl
  · rw [if_neg e,if_neg e]
theorem vget_zero [Pos α] (k:Nat):vget (Zr.zd:Vector α n) k=Zr.zd:=by
  show vget (Vector.replicate n Zr.zd) k=Zr.zd
  unfold vget
  by_cases hk:k<n<;>simp [hk]
end
def errR (e:Int):GReply:={ code:=e,n:=0,values:=[] }
def okR (n:Int) (v:List Int):GReply:={ code:=0,n:=n,values:=v }
def sendZ:List ByteArray→List GFrame→List ByteArray
  | net,[]=>net
  | net,f::t=>sendZ (bif frameZ f==0&&decide (net.length<60) then net++[(encP f).1] else net) t
theorem encP_code (f:GFrame):(encP f).2=frameZ f:=by
  unfold encP
  split
  · rename_i h;exact h.symm
  · rfl
theorem encP_size (f:GFrame):(encP f).1.size≤100:=by
  by_cases h:frameZ f=0
  · exact (dec_enc h).2.2
  · unfold encP
    rw [if_neg h]
    show (strOfNums []).size≤100
    have:(strOfNums []).size=0:=rfl
    omega
theorem clSend_l1_eq {fu:Nat} (hfu:40≤fu) {l:List GFrame} (hl:l.length≤1000) {c:GCluster} : ∀ (n m k:Nat) (net:List ByteArray),l.length=k+m→m<n→clSend_l1 fu l n c net k=some (c,sendZ net (l.drop k))
  | 0,m,k,_,_,h=>absurd h (by omega)
  | n+1,0,k,net,hk,_=>by
    rw [clSend_l1,bif_f (dec_f (by omega)),List.drop_of_length_le (by omega)]
    rfl
  | n+1,m+1,k,net,hk,hn=>by
    have hb:Rep.bytes ByteArray=16:=rfl
    have hlt:k<l.length:=by omega
    have ih:=fun net=>clSend_l1_eq hfu hl (c:=c) n m (k+1) net (by omega) (by omega)
    rw [clSend_l1,bif_t (dec_t (by omega)),idx_nat,List.getElem?_eq_getElem hlt,some_bind,some_bind,encodeD_eq _ hfu,some_bind,List.drop_eq_getElem_cons hlt,encP_code]
    generalize l[k]=f
    simp only [clSend_j2,clSend_j1,wrsB k (by omega),sendZ]
    have hs:=encP_size f
    cases h1:(frameZ f==0)
    · rw [cond_false,cond_false,Bool.false_and,cond_false,ih]
    · rw [cond_true,Bool.true_and]
      by_cases h2:net.length<60
      · rw [dec_t (by omega),dec_t h2,cond_true,cond_true,chkS_ok (by omega),some_bind,app_ok (by rw [hb];simp only [List.length_singleton];omega),some_bind,some_bind]
        exact ih _
      · rw [dec_f (by omega),dec_f h2,cond_false,cond_false,ih]
theorem clSendD_eq {fu:Nat} (hfu:1100≤fu) {l:List GFrame} (hl:l.length≤1000) {c:GCluster} {net:List ByteArray}:clSendD fu c net l=some (c,sendZ net l) :=
  clSend_l1_eq (by omega) hl fu l.length 0 net (by omega) (by omega)
theorem sendZ_small : ∀ (l:List GFrame) (net:List ByteArray),net.length≤60→(∀ s∈net,s.size≤400)→(sendZ net l).length≤60 ∧ ∀ s∈sendZ net l,s.size≤400
  | [],net,h1,h2=>⟨h1,h2⟩
  | f::t,net,h1,h2=>by
    rw [sendZ]
    cases hb:(frameZ f==0&&decide (net.length<60))
    · exact sendZ_small t net h1 h2
    · simp only [Bool.and_eq_true,decide_eq_true_eq] at hb
      refine sendZ_small t _ (by simp;omega) fun s hs => ?_
      rcases List.mem_append.1 hs with hs | hs
      · exact h2 s hs
      · rw [List.mem_singleton.1 hs]
        have:=encP_size f
        omega
structure CInv (c:GCluster) (net:List ByteArray):Prop where
  acts:0≤c.acts∧c.acts≤400
  begun:0≤c.begun∧c.begun≤32
  node : ∀ n,n<6→GoodN (vget c.nodes n)
  down : ∀ n,n<6→vget c.down n=true→vget c.nodes n=zeroN
  log : ∀ n,n<6→(vget c.logs n).size≤65536
  tear : ∀ n,n<6→0≤vget c.tear n∧vget c.tear n≤401
  cas : ∀ n,n<32→goodC (vget c.cases n)=true
  net:net.length≤60 ∧ ∀ s∈net,s.size≤400
def toldZ (c:GCluster) (x:Int):GReply:=okR x (resultC (vget c.cases x.toNat)).1
theorem clToldD_eq {fu:Nat} (hfu:7≤fu) {c:GCluster} {x:Int} (h0:0≤x) (h1:x<32):clToldD fu c x=some (toldZ c x):=by
  unfold clToldD
  rw [inR_ok h0 h1,some_bind,idxG h0 h1,some_bind,postResultD_eq hfu,some_bind,some_bind,some_bind]
  rfl
def begC (c:GCluster) (ops:List GOp):GCluster:={ c with cases:=c.cases.setIfInBounds c.begun.toNat (beginC { id:=c.begun,ops:=ops }).1,begun:=c.begun+1 }
def begZ (c:GCluster) (net:List ByteArray) (ops:List GOp):GReply × GCluster × List ByteArray :=
  bif decide (c.begun≥32) then (errR 5,c,net) else
  bif (beginC { id:=c.begun,ops:=ops }).2.2 != 0 then (errR (beginC { id:=c.begun,ops:=ops }).2.2,c,net) else
  (okR c.begun [],begC c ops,sendZ net (beginC { id:=c.begun,ops:=ops }).2.1)
theorem beginC_few (t:GTxn):(beginC t).2.1.length≤6:=by
  unfold beginC
  cases decide (0≤t.id∧t.id<32)
  · simp
  · cases goodOpsZ t.ops
    · simp
    · exact againC_small.1
theorem clBeginD_eq {fu:Nat} (hfu:1100≤fu) {c:GCluster} {net:List ByteArray} (h:CInv c net) {ops:List GOp}:clBeginD fu c net ops=some (begZ c net ops):=by
  obtain ⟨h0,h1⟩:=h.begun
  unfold clBeginD begZ
  by_cases h32:c.begun≥32
  · rw [bif_t (dec_t h32),bif_t (dec_t h32)]
    rfl
  · rw [bif_f (dec_f h32),bif_f (dec_f h32),some_bind,postBeginD_eq (by omega),some_bind,some_bind]
    cases hc:((beginC { id:=c.begun,ops:=ops }).2.2 != 0)
    · have hl:=beginC_few { id:=c.begun,ops:=ops }
      rw [cond_false,cond_false,inR_ok h0 (by omega),some_bind,idxG h0 (by omega),some_bind,setV_in h0 (by omega),some_bind,some_bind]
      have e1:IntKind.wrap .i64 (c.begun+1)=c.begun+1:=wr64 (by omega) (by omega)
      have e2 : ∀ (x:Vector GCase 32),({ c with cases:=x }:GCluster).begun=c.begun:=fun _=>rfl
      rw [e2,e1,some_bind,clSendD_eq hfu (by omega),some_bind]
      dsimp only
      have e3:IntKind.wrap .i64 (c.begun+1-1)=c.begun:=by rw [wr64 (by omega) (by omega)];omega
      rw [e3]
      rfl
    · rfl
def fallZ (c:GCluster) (n:Nat):GCluster:={ c with nodes:=c.nodes.setIfInBounds n zeroN,down:=c.down.setIfInBounds n true,tear:=c.tear.setIfInBounds n 0 }
noncomputable def comeZ (c:GCluster) (net:List ByteArray) (n:Nat) (f:GFrame) (s:ByteArray):Int × GCluster × List ByteArray :=
  bif vget c.down n then (6,c,net) else
  bif (takeN (vget c.nodes n) n f).2.2 != 0 then ((takeN (vget c.nodes n) n f).2.2,c,net) else
  bif decide (vget c.tear n>0) then (6,fallZ { c with logs:=c.logs.setIfInBounds n (tearZ (vget c.logs n) s (vget c.tear n-1)) } n,net) else
  bif wcode (vget c.logs n) s != 0 then (wcode (vget c.logs n) s,{ c with logs:=c.logs.setIfInBounds n (wout (vget c.logs n) s) },net) else
  (0,{ c with logs:=c.logs.setIfInBounds n (wout (vget c.logs n) s),nodes:=c.nodes.setIfInBounds n (takeN (vget c.nodes n) n f).1 },sendZ net (takeN (vget c.nodes n) n f).2.1)
theorem tearZ_size {log s:ByteArray} {n:Int} (h:log.size≤65536):(tearZ log s n).size≤65536:=by
  unfold tearZ
  split
  · rename_i hc
    have hs:=wtext_size log s
    rcases wcode_or log s with ⟨_,_,_,h4⟩ | ⟨h0,_⟩
    · rw [ByteArray.size_extract];omega
    · exact absurd hc h0
  · exact h
theorem wout_size {log s:ByteArray} (h:log.size≤65536):(wout log s).size≤65536:=by
  have hs:=wtext_size log s
  rcases wcode_or log s with ⟨h0,_,_,h4⟩ | ⟨_,h1⟩
  · unfold wout;rw [if_pos h0];omega
  · rw [h1];exact h
theorem takeN_len {s:GNode} {who:Int} {f:GFrame}:(takeN s who f).2.1.length≤100:=by
  by_cases h:(takeN s who f).2.2=0
  · exact (takeN_small h).1
  · rw [(takeN_no h).2];simp
theorem clComeD_eq {fu:Nat} (hfu:1100≤fu) {c:GCluster} {net:List ByteArray} (h:CInv c net) {x:Int} (h0:0≤x) (h6:x<6) {f:GFrame} {s:ByteArray} (hs:s.size≤400):clComeD fu c net x f s=some (comeZ c net x.toNat f s):=by
  have hn:x.toNat<6:=by omega
  have ex:((x.toNat:Nat):Int)=x:=by omega
  have hg:=h.node _ hn
  have hlog:=h.log _ hn
  have ht:=h.tear _ hn
  unfold clComeD comeZ
  rw [inR_ok h0 h6,some_bind,idxG h0 h6,some_bind,ex]
  cases vget c.down x.toNat
  · rw [cond_false,cond_false,some_bind,idxG h0 h6,some_bind,nodeTakeD_eq hg.sizes (by omega) (by omega),some_bind,some_bind]
    have hl:=takeN_len (s:=vget c.nodes x.toNat) (who:=x) (f:=f)
    unfold clCome_j1
    cases h1:((takeN (vget c.nodes x.toNat) x f).2.2 != 0)
    · rw [cond_false,cond_false,inR_ok h0 h6,some_bind,idxG h0 h6,some_bind]
      by_cases h2:vget c.tear x.toNat>0
      · rw [bif_t (dec_t h2),bif_t (dec_t h2),some_bind,idxG h0 h6,some_bind,some_bind,some_bind,wr64 (by omega) (by omega),bkTearD_eq (by omega),some_bind,some_bind,chkS_ok (by have:=tearZ_size (s:=s) (n:=vget c.tear x.toNat-1) hlog;omega),some_bind,some_bind,setV_in h0 h6,some_bind,some_bind,some_bind,some_bind,
          idxG h0 h6,some_bind,setV_in h0 h6,some_bind,some_bind,some_bind,idxG h0 h6,some_bind,setV_in h0 h6,some_bind,some_bind,some_bind,idxG h0 h6,some_bind,setV_in h0 h6,some_bind,some_bind]
        rfl
      · rw [bif_f (dec_f h2),bif_f (dec_f h2),some_bind,idxG h0 h6,some_bind,bkWriteD_eq (by omega),some_bind,some_bind,chkS_ok (by have:=wout_size (s:=s) hlog;dsimp only;omega),some_bind,some_bind,setV_in h0 h6,some_bind,some_bind]
        cases h3:(wcode (vget c.logs x.toNat) s != 0)
        · rw [cond_false,cond_false,some_bind,idxG h0 h6,some_bind,setV_in h0 h6,some_bind,some_bind,clSendD_eq hfu (by omega),some_bind]
        · rfl
    · rfl
  · rfl
noncomputable def frm2 (c:GCluster) (net:List ByteArray) (kind:Int) (f:GFrame) (s:ByteArray):GReply × GCluster × List ByteArray :=
  bif kind==4 then (okR f.id [],c,net) else
  bif f.kind==1||f.kind==3 then
    (bif (comeZ c net f.node.toNat f s).1 != 0 then errR (comeZ c net f.node.toNat f s).1 else okR f.id [],(comeZ c net f.node.toNat f s).2.1,(comeZ c net f.node.toNat f s).2.2)
  else
    bif (takeC (vget c.cases f.id.toNat) f.id f).2.2 != 0 then (errR (takeC (vget c.cases f.id.toNat) f.id f).2.2,c,net)
    else (toldZ { c with cases:=c.cases.setIfInBounds f.id.toNat (takeC (vget c.cases f.id.toNat) f.id f).1 } f.id,{ c with cases:=c.cases.setIfInBounds f.id.toNat (takeC (vget c.cases f.id.toNat) f.id f).1 },sendZ net (takeC (vget c.cases f.id.toNat) f.id f).2.1)
def textAt (net:List ByteArray) (x:Int):ByteArray:=net[x.toNat]?.getD ⟨#[]⟩
def frameAt (net:List ByteArray) (x:Int):GFrame:=(decZ (byL (textAt net x))).1
noncomputable def frmZ (c:GCluster) (net:List ByteArray) (a:GAct):GReply × GCluster × List ByteArray :=
  bif decide (0≤a.n∧a.n<net.length) then frm2 c (bif a.kind==3 then net else net.eraseIdx a.n.toNat) a.kind (frameAt net a.n) (textAt net a.n) else (errR 4,c,net)
theorem decZ_in (l:List Int):(0≤(decZ l).1.node∧(decZ l).1.node<6)∧(0≤(decZ l).1.id∧(decZ l).1.id<32):=by
  rcases decZ_cases l with ⟨f,_,hz,h⟩ | h
  · rw [h];exact (frameZ_in hz).2
  · rw [h]
    exact ⟨⟨by show (0:Int)≤0;omega,by show (0:Int)<6;omega⟩,⟨by show (0:Int)≤0;omega,by show (0:Int)<32;omega⟩⟩
theorem CInv.cut {c:GCluster} {net net':List ByteArray} (h:CInv c net) (hs : ∀ s∈net',s∈net) (hl:net'.length≤net.length):CInv c net' :=
  ⟨h.acts,h.begun,h.node,h.down,h.log,h.tear,h.cas,by have:=h.net.1;omega,fun s hm=>h.net.2 s (hs s hm)⟩
theorem clFrame_j2_eq {fu:Nat} (hfu:1100≤fu) {c:GCluster} {net:List ByteArray} (h:CInv c net) {a:GAct} {s:ByteArray} (hs:s.size≤400) {d:GReply}:clFrame_j2 fu a d s c net=some (frm2 c net a.kind (decZ (byL s)).1 s):=by
  obtain ⟨⟨n0,n6⟩,i0,i32⟩:=decZ_in (byL s)
  unfold clFrame_j2 frm2
  rw [decodeD_eq (by omega) (by omega),some_bind,some_bind]
  generalize (decZ (byL s)).1=f at n0 n6 i0 i32
  cases h4:(a.kind==4)
  · have hcome:clFrame_j5 fu d s c net f true=some (bif (comeZ c net f.node.toNat f s).1 != 0 then errR (comeZ c net f.node.toNat f s).1 else okR f.id [],(comeZ c net f.node.toNat f s).2.1,(comeZ c net f.node.toNat f s).2.2):=by
      rw [clFrame_j5,cond_true,clComeD_eq hfu h n0 n6 hs,some_bind]
      cases ((comeZ c net f.node.toNat f s).1 != 0)<;>rfl
    have htake:clFrame_j5 fu d s c net f false=some (bif (takeC (vget c.cases f.id.toNat) f.id f).2.2 != 0 then (errR (takeC (vget c.cases f.id.toNat) f.id f).2.2,c,net)
        else (toldZ { c with cases:=c.cases.setIfInBounds f.id.toNat (takeC (vget c.cases f.id.toNat) f.id f).1 } f.id,{ c with cases:=c.cases.setIfInBounds f.id.toNat (takeC (vget c.cases f.id.toNat) f.id f).1 },sendZ net (takeC (vget c.cases f.id.toNat) f.id f).2.1)):=by
      have hl:=(takeC_small (c:=vget c.cases f.id.toNat) (id:=f.id) (f:=f)).2.1
      rw [clFrame_j5,cond_false,clFrame_j3,inR_ok i0 i32,some_bind,idxG i0 i32,some_bind,postTakeD_eq (by omega),some_bind,some_bind,clFrame_j4]
      cases ((takeC (vget c.cases f.id.toNat) f.id f).2.2 != 0)
      · rw [cond_false,cond_false,inR_ok i0 i32,some_bind,idxG i0 i32,some_bind,setV_in i0 i32,some_bind,some_bind,clSendD_eq hfu (by omega),some_bind,clToldD_eq (by omega) i0 i32,some_bind,some_bind]
      · rfl
    rw [cond_false,cond_false]
    cases h1:(f.kind==1)
    · rw [cond_false,Bool.false_or]
      cases h3:(f.kind==3)
      · rw [htake];rfl
      · rw [hcome];rfl
    · rw [cond_true,hcome];rfl
  · rfl
theorem clFrameD_eq {fu:Nat} (hfu:1100≤fu) {c:GCluster} {net:List ByteArray} (h:CInv c net) {a:GAct}:clFrameD fu c net a=some (frmZ c net a):=by
  obtain ⟨hn1,hn2⟩:=h.net
  unfold clFrameD frmZ clFrame_j6
  by_cases h0:a.n<0
  · rw [bif_t (dec_t h0),dec_f (show ¬ (0≤a.n∧a.n<net.length) by omega)]
    rfl
  · rw [bif_f (dec_f h0)]
    by_cases h1:a.n≥(net.length:Int)
    · rw [dec_t h1,dec_f (show ¬ (0≤a.n∧a.n<net.length) by omega)]
      rfl
    · rw [dec_f h1,dec_t (show 0≤a.n∧a.n<net.length by omega),cond_false,cond_true,clFrame_j1]
      have hlt:a.n.toNat<net.length:=by omega
      have hi:idx net a.n=some (textAt net a.n):=by
        unfold idx textAt
        rw [if_pos (by omega)]
        simp [hlt]
      have hsz:(textAt net a.n).size≤400:=by
        unfold textAt
        rw [List.getElem?_eq_getElem hlt]
        exact hn2 _ (List.getElem_mem hlt)
      have hk3:(a.kind != 3) = !(a.kind==3):=rfl
      rw [hi,some_bind,hk3]
      cases a.kind==3
      · have hd:delL net a.n (IntKind.wrap .i64 (a.n+1))=some (net.eraseIdx a.n.toNat):=by
          rw [wr64 (by omega) (by omega)]
          unfold delL
          rw [if_pos (by omega),List.eraseIdx_eq_take_drop_succ]
          have:(a.n+1).toNat=a.n.toNat+1:=by omega
          rw [this]
        rw [Bool.not_false,cond_true,cond_false,hd,some_bind,some_bind]
        exact clFrame_j2_eq hfu (h.cut (fun s hs=>List.mem_of_mem_eraseIdx hs) (List.length_eraseIdx_le ..)) hsz
      · rw [Bool.not_true,cond_false,cond_true]
        exact clFrame_j2_eq hfu h hsz
noncomputable def riseZ (c:GCluster) (n:Nat):GCluster:={ c with logs:=c.logs.setIfInBounds n ((vget c.logs n).extract 0 (readL (vget c.logs n).data.toList).2),nodes:=c.nodes.setIfInBounds n (replayZ n (readL (vget c.logs n).data.toList).1 zeroN).1,down:=c.down.setIfInBounds n false }
def powOk (a:GAct):Bool:=decide (0≤a.n∧a.n<6) && !(a.kind==7 && !decide (0≤a.m∧a.m≤400))
noncomputable def powZ (c:GCluster) (net:List ByteArray) (a:GAct):GReply × GCluster × List ByteArray :=
  bif powOk a then
    bif !(vget c.down a.n.toNat==(a.kind==8)) then (errR 6,c,net) else
    bif a.kind==7 then (errR 0,{ c with tear:=c.tear.setIfInBounds a.n.toNat (a.m+1) },net) else
    bif a.kind==6 then (errR 0,fallZ c a.n.toNat,net) else (errR 0,riseZ c a.n.toNat,net)
  else (errR 2,c,net)
theorem clPower_j2_eq {fu:Nat} (hfu:70000≤fu) {c:GCluster} {net:List ByteArray} (h:CInv c net) {a:GAct} (h0:0≤a.n) (h6:a.n<6) (hm:(a.kind==7)=true→0≤a.m∧a.m≤400):clPower_j2 fu c net a false =
    some (bif !(vget c.down a.n.toNat==(a.kind==8)) then (errR 6,c,net) else bif a.kind==7 then (errR 0,{ c with tear:=c.tear.setIfInBounds a.n.toNat (a.m+1) },net) else bif a.kind==6 then (errR 0,fallZ c a.n.toNat,net) else (errR 0,riseZ c a.n.toNat,net)):=by
  have hn:a.n.toNat<6:=by omega
  have ex:((a.n.toNat:Nat):Int)=a.n:=by omega
  have hlog:=h.log _ hn
  unfold clPower_j2
  rw [cond_false,inR_ok h0 h6,some_bind,idxG h0 h6,some_bind]
  cases hd:(!(vget c.down a.n.toNat==(a.kind==8)))
  · rw [cond_false,cond_false]
    cases h7:(a.kind==7)
    · rw [cond_false,cond_false]
      cases h6k:(a.kind==6)
      · obtain ⟨r1,r2,r3⟩:=readL_small _ (vget c.logs a.n.toNat).data.toList (Nat.le_refl _)
        have hdl:(vget c.logs a.n.toNat).data.toList.length=(vget c.logs a.n.toNat).size:=rfl
        have hcut:cutB (vget c.logs a.n.toNat) none (some ((readL (vget c.logs a.n.toNat).data.toList).2:Int))=some ((vget c.logs a.n.toNat).extract 0 (readL (vget c.logs a.n.toNat).data.toList).2):=by
          unfold cutB cutOk
          simp only [Option.getD_some,Option.getD_none]
          rw [if_pos (by omega),Int.toNat_natCast]
          rfl
        have hrep:nodeReplayD fu a.n (readL (vget c.logs a.n.toNat).data.toList).1=some (replayZ a.n (readL (vget c.logs a.n.toNat).data.toList).1 zeroN):=by
          rw [nodeReplayD_eq (by omega) (by omega) (fun x hx=>by have:=r3 x hx;omega),dec_t (show 0≤a.n∧a.n<6 from ⟨h0,h6⟩),cond_true]
        rw [cond_false,cond_false,some_bind,idxG h0 h6,some_bind,bkReadD_eq hlog (by omega),some_bind,some_bind,some_bind,hcut,some_bind,some_bind,chkS_ok (by rw [ByteArray.size_extract];omega),some_bind,some_bind,setV_in h0 h6,some_bind,some_bind,
          hrep,some_bind,some_bind,idxG h0 h6,some_bind,setV_in h0 h6,some_bind,some_bind,some_bind,idxG h0 h6,some_bind,setV_in h0 h6,some_bind,some_bind]
        unfold clPower_j1 riseZ
        rw [ex]
        rfl
      · rw [cond_true,cond_true,some_bind,some_bind,idxG h0 h6,some_bind,setV_in h0 h6,some_bind,some_bind,some_bind,idxG h0 h6,some_bind,setV_in h0 h6,some_bind,some_bind,some_bind,idxG h0 h6,some_bind,setV_in h0 h6,some_bind,some_bind]
        rfl
    · have:=hm h7
      rw [cond_true,cond_true,some_bind,idxG h0 h6,some_bind,wr64 (by omega) (by omega),setV_in h0 h6,some_bind,some_bind]
      rfl
  · rfl
theorem clPowerD_eq {fu:Nat} (hfu:70000≤fu) {c:GCluster} {net:List ByteArray} (h:CInv c net) {a:GAct}:clPowerD fu c net a=some (powZ c net a):=by
  have hno:clPower_j2 fu c net a true=some (errR 2,c,net):=rfl
  unfold clPowerD powZ powOk
  by_cases h0:a.n<0
  · rw [bif_t (dec_t h0),dec_f (show ¬ (0≤a.n∧a.n<6) by omega),hno]
    rfl
  · rw [bif_f (dec_f h0)]
    by_cases h6:a.n≥6
    · rw [bif_t (dec_t h6),dec_f (show ¬ (0≤a.n∧a.n<6) by omega),hno]
      rfl
    · rw [bif_f (dec_f h6),dec_t (show 0≤a.n∧a.n<6 by omega),Bool.true_and]
      cases h7:(a.kind==7)
      · rw [cond_false,Bool.false_and,Bool.not_false,cond_true,clPower_j2_eq hfu h (by omega) (by omega) (fun e=>by rw [h7] at e;cases e),h7]
      · rw [cond_true,Bool.true_and]
        by_cases m0:a.m<0
        · rw [bif_t (dec_t m0),dec_f (show ¬ (0≤a.m∧a.m≤400) by omega),hno]
          rfl
        · rw [bif_f (dec_f m0)]
          by_cases m4:a.m>400
          · rw [dec_t m4,dec_f (show ¬ (0≤a.m∧a.m≤400) by omega),hno]
            rfl
          · rw [dec_f m4,dec_t (show 0≤a.m∧a.m≤400 by omega),clPower_j2_eq hfu h (by omega) (by omega) (fun _=>by omega),h7]
            rfl
def agaZ (c:GCluster) (net:List ByteArray) (a:GAct):GReply × GCluster × List ByteArray :=
  bif decide (0≤a.n∧a.n<c.begun) then (toldZ c a.n,c,sendZ net (againC (vget c.cases a.n.toNat) a.n)) else (errR 4,c,net)
noncomputable def doA (c:GCluster) (net:List ByteArray) (a:GAct):GReply × GCluster × List ByteArray :=
  bif a.kind==1 then begZ c net a.ops else
  bif a.kind==2||(a.kind==3||a.kind==4) then frmZ c net a else
  bif a.kind==5 then agaZ c net a else
  bif a.kind==6||(a.kind==7||a.kind==8) then powZ c net a else (errR 3,c,net)
noncomputable def actZ (c:GCluster) (net:List ByteArray) (a:GAct):GReply × GCluster × List ByteArray :=
  bif decide (c.acts≥400) then (errR 5,c,net) else doA { c with acts:=c.acts+1 } net a
theorem CInv.act {c:GCluster} {net:List ByteArray} (h:CInv c net) (ha : ¬ c.acts≥400):CInv { c with acts:=c.acts+1 } net :=
  ⟨by have:=h.acts;exact ⟨by show 0≤c.acts+1;omega,by show c.acts+1≤400;omega⟩,h.begun,h.node,h.down,h.log,h.tear,h.cas,h.net⟩
theorem clDo_j3_eq {fu:Nat} (hfu:70000≤fu) {c:GCluster} {net:List ByteArray} (h:CInv c net) {a:GAct} (h0:0≤a.n) (h1:a.n<c.begun) {d:GReply}:clDo_j3 fu net a c d=some (toldZ c a.n,c,sendZ net (againC (vget c.cases a.n.toNat) a.n)):=by
  have:=h.begun.2
  have hl:=(againC_small (c:=vget c.cases a.n.toNat) (id:=a.n)).1
  unfold clDo_j3
  rw [inR_ok h0 (by omega),some_bind,idxG h0 (by omega),some_bind,againD_eq (by omega),some_bind,clSendD_eq (by omega) (by omega),some_bind,clToldD_eq (by omega) h0 (by omega),some_bind,some_bind]
theorem clDoD_eq {fu:Nat} (hfu:70000≤fu) {c:GCluster} {net:List ByteArray} (h:CInv c net) {a:GAct}:clDoD fu c net a=some (actZ c net a):=by
  unfold clDoD actZ
  by_cases ha:c.acts≥400
  · rw [bif_t (dec_t ha),bif_t (dec_t ha)]
    rfl
  · have hi:=h.act ha
    have hacts:=h.acts
    rw [bif_f (dec_f ha),bif_f (dec_f ha),wr64 (by omega) (by omega),some_bind]
    generalize ({ c with acts:=c.acts+1 }:GCluster)=d at hi
    unfold doA
    have hfr : ∀ (b:Bool),b=true→clDo_j2 fu net a d b=some (frmZ d net a):=fun b hb=>by
      rw [clDo_j2,hb,cond_true,clFrameD_eq (by omega) hi]
      rfl
    have hpo : ∀ (b:Bool),b=true→clDo_j5 fu net a d b=some (powZ d net a):=fun b hb=>by
      rw [clDo_j5,hb,cond_true,clPowerD_eq hfu hi]
      rfl
    cases k1:(a.kind==1)
    · rw [cond_false,cond_false]
      cases k2:(a.kind==2)
      · rw [cond_false,Bool.false_or]
        cases k3:(a.kind==3)
        · rw [cond_false,Bool.false_or]
          cases k4:(a.kind==4)
          · rw [cond_false,clDo_j2,cond_false]
            cases k5:(a.kind==5)
            · rw [cond_false,cond_false]
              cases k6:(a.kind==6)
              · rw [cond_false,Bool.false_or]
                cases k7:(a.kind==7)
                · rw [cond_false,Bool.false_or]
                  cases k8:(a.kind==8)
                  · rfl
                  · rw [hpo true rfl];rfl
                · rw [hpo true rfl];rfl
              · rw [hpo true rfl];rfl
            · rw [cond_true,cond_true]
              unfold agaZ clDo_j4
              by_cases n0:a.n<0
              · rw [bif_t (dec_t n0),dec_f (show ¬ (0≤a.n∧a.n<d.begun) by omega)]
                rfl
              · rw [bif_f (dec_f n0)]
                by_cases nb:a.n≥d.begun
                · rw [dec_t nb,dec_f (show ¬ (0≤a.n∧a.n<d.begun) by omega)]
                  rfl
                · rw [dec_f nb,dec_t (show 0≤a.n∧a.n<d.begun by omega),cond_false,cond_true]
                  exact clDo_j3_eq hfu hi (by omega) (by omega)
          · rw [hfr true rfl];rfl
        · rw [cond_true,hfr true rfl];rfl
      · rw [cond_true,hfr true rfl];rfl
    · rw [cond_true,cond_true,clBeginD_eq (by omega) hi,some_bind,some_bind]
end Go.Proofs.Yteilffoclpgijaa
namespace Go.Proofs.Yteilffoclpgijaa
open Go.RowKit
open Rep (rep)
theorem union_rising (a b:List Int):risingZ (unionZ a b)=true:=(unionTo_rising a b 32 (by omega)).1
theorem hasAt_set {n:Nat} {v:Vector Bool n} {i j:Nat} {x:Bool} (hi:i<n):hasAt (v.setIfInBounds i x) j=if i=j then x else hasAt v j:=by
  unfold hasAt
  by_cases hj:j<n
  · simp only [Vector.getElem?_setIfInBounds,hi]
    by_cases e:i=j
    · subst e;simp
    · simp [e]
  · have hij:i≠j:=by omega
    simp [hj,hij]
structure Gathers (t:GTxn) (told:Vector Bool 6) (c:GCase) (deps:List Int):Prop where
  htold:c.told=told
  hdeps:c.deps=deps
  hops:c.ops=t.ops
  small:deps.length≤32
  enough:c.fixed=true→enoughC c=true
theorem enoughC_same {c d:GCase} (h1:c.ops=d.ops) (h2:c.told=d.told):enoughC c=enoughC d:=by unfold enoughC;rw [h1,h2]
theorem Gathers.same {t:GTxn} {told:Vector Bool 6} {c d:GCase} {deps:List Int} (h:Gathers t told c deps) (h1:d.told=c.told) (h2:d.deps=c.deps) (h3:d.ops=c.ops) (h4:d.fixed=c.fixed):Gathers t told d deps :=
  ⟨h1.trans h.htold,h2.trans h.hdeps,h3.trans h.hops,h.small,fun hf=>by rw [enoughC_same h3 h1];exact h.enough (by rw [← h4];exact hf)⟩
structure OfTxn (t:GTxn) (c:GCase):Prop where
  begun:c.begun=true
  ops:c.ops=t.ops
  good:goodOpsZ t.ops=true
  none:c.fixed=false → ∀ k,hasAt c.has k=false
theorem shard_two (k:Int):shardZ k=0∨shardZ k=1:=by
  unfold shardZ
  split
  · exact .inl rfl
  · exact .inr rfl
theorem wholeL_has {has:Nat→Bool} {s:Int} : ∀ (l:List GOp) (k:Nat),wholeL has s l k=true → ∀ i o,l[i]? = some o→shardZ o.key=s→has (k+i)=true
  | [],_,_,i,o,h,_=>by simp at h
  | a::t,k,h,i,o,hi,hs=>by
    rw [wholeL] at h
    cases hb:(shardZ a.key==s && !has k) with
    | true=>rw [hb] at h;cases h
    | false =>
      rw [hb] at h
      cases i with
      | zero =>
        cases hi
        have e:(shardZ a.key==s)=true:=by simp [hs]
        rw [e,Bool.true_and] at hb
        simpa using hb
      | succ i =>
        have:=wholeL_has t (k+1) h i o hi hs
        rw [show k+(i+1)=k+1+i from by omega]
        exact this
theorem result_has {c:GCase} (h0:wholeC c 0=true) (h1:wholeC c 1=true) {i:Nat} (hi:i<c.ops.length):hasAt c.has i=true:=by
  have hx:c.ops[i]? = some c.ops[i]:=by simp
  rcases shard_two c.ops[i].key with h | h
  · have:=wholeL_has c.ops 0 h0 i _ hx h
    rwa [Nat.zero_add] at this
  · have:=wholeL_has c.ops 0 h1 i _ hx h
    rwa [Nat.zero_add] at this
theorem resultC_ok {c:GCase} (h:(resultC c).2=true):c.begun=true∧goodC c=true∧wholeC c 0=true∧wholeC c 1=true∧(resultC c).1=c.values.toList.take c.ops.length:=by
  unfold resultC at h ⊢
  cases h1:c.begun&&(goodC c&&(wholeC c 0&&wholeC c 1)) with
  | false=>rw [h1] at h;cases h
  | true =>
    simp only [Bool.and_eq_true] at h1
    exact ⟨h1.1,h1.2.1,h1.2.2.1,h1.2.2.2,rfl⟩
theorem OfTxn.len {t:GTxn} {c:GCase} (h:OfTxn t c):0<c.ops.length∧c.ops.length≤4:=by
  rw [h.ops];exact goodOps_len h.good
theorem OfTxn.fixed {t:GTxn} {c:GCase} (h:OfTxn t c) (hr:(resultC c).2=true):c.fixed=true:=by
  obtain ⟨_,_,h0,h1,_⟩:=resultC_ok hr
  cases hf:c.fixed with
  | true=>rfl
  | false =>
    have:=result_has h0 h1 h.len.1
    rw [h.none hf 0] at this
    cases this
theorem OfTxn.length {t:GTxn} {c:GCase} (h:OfTxn t c) (hr:(resultC c).2=true):(resultC c).1.length=t.ops.length:=by
  obtain ⟨_,_,_,_,e⟩:=resultC_ok hr
  have:=h.len
  rw [e,List.length_take,h.ops]
  rw [h.ops] at this
  simp
  omega
theorem doneL_full {sh:Int} : ∀ {at_ vs:List Int} {c:GCase},(∀ n∈at_,0≤n)→(∀ i,i<c.ops.length→hasAt c.has i=true)→doneL sh c at_ vs=c
  | [],_,_,_,_=>by unfold doneL;rfl
  | _::_,[],_,_,_=>by unfold doneL;rfl
  | k::at_,v::vs,c,hn,h=>by
    have e:doneStep sh c k v=c:=by
      unfold doneStep
      by_cases hk:k<(c.ops.length:Int)
      · have h0:=hn k List.mem_cons_self
        rw [h k.toNat (by omega)]
        simp
      · rw [dec_f hk];rfl
    unfold doneL
    rw [e]
    exact doneL_full (fun n hm=>hn n (List.mem_cons_of_mem _ hm)) h
theorem takeC_kinds {c:GCase} {id:Int} {f:GFrame} (h:(takeC c id f).2.2=0):frameZ f=0∧(((takeC c id f).1=c)∨(c.fixed=false∧(takeC c id f).1=fixC (toldC c f))∨(c.fixed=true∧(takeC c id f).1={ c with known:=c.known.setIfInBounds f.node.toNat true })∨(c.fixed=true∧(takeC c id f).1=doneL (ofZ f.node) c f.at_ f.vals)):=by
  unfold takeC at h ⊢
  cases ht:takes c id f
  · rw [ht] at h;simp at h
  · rw [ht] at h
    simp only [cond_true] at h ⊢
    cases hz:(frameZ f==0)
    · rw [hz] at h
      simp only [cond_false] at h
      rw [h] at hz;cases hz
    · refine ⟨by simpa using hz,?_⟩
      rw [hz] at h
      simp only [cond_true] at h ⊢
      unfold takeOk at h ⊢
      cases hk2:(f.kind==2)
      · simp only [cond_false]
        cases hk4:(f.kind==4)
        · simp only [cond_false]
          cases hk5:(f.kind==5)
          · rw [hk2,hk4,hk5] at h;simp at h
          · cases hfx:c.fixed
            · exact .inl rfl
            · exact .inr (.inr (.inr ⟨rfl,rfl⟩))
        · cases hfx:c.fixed
          · exact .inl rfl
          · exact .inr (.inr (.inl ⟨rfl,rfl⟩))
      · simp only [cond_true]
        cases hfx:c.fixed
        · cases (hasAt c.told f.node.toNat || !touchesZ c.ops (ofZ f.node))
          · exact .inr (.inl ⟨rfl,rfl⟩)
          · exact .inl rfl
        · exact .inl rfl
theorem goodC_same {c d:GCase} (h1:d.begun=c.begun) (h2:d.ops=c.ops) (h3:d.deps=c.deps) (hb:c.begun=true):goodC d=goodC c:=by
  unfold goodC
  rw [h1,h2,h3,hb]
  rfl
theorem OfTxn.take {t:GTxn} {c:GCase} (h:OfTxn t c) {f:GFrame} (h0:(takeC c t.id f).2.2=0):OfTxn t (takeC c t.id f).1∧((resultC c).2=true→resultC (takeC c t.id f).1=resultC c):=by
  obtain ⟨hz,hk⟩:=takeC_kinds h0
  rcases hk with e | ⟨hf,e⟩ | ⟨hf,e⟩ | ⟨hf,e⟩
  · rw [e];exact ⟨h,fun _=>rfl⟩
  · rw [e]
    refine ⟨⟨h.begun,h.ops,h.good,fun _=>h.none hf⟩,fun hr => ?_⟩
    rw [h.fixed hr] at hf;cases hf
  · rw [e]
    refine ⟨⟨h.begun,h.ops,h.good,fun hn => ?_⟩,fun _ => ?_⟩
    · have hn:c.fixed=false:=hn
      rw [hn] at hf;cases hf
    · unfold resultC
      have hg:goodC { c with known:=c.known.setIfInBounds f.node.toNat true }=goodC c:=goodC_same rfl rfl rfl h.begun
      rw [hg]
      rfl
  · rw [e]
    have hd:=doneL_same (sh:=ofZ f.node) (at_:=f.at_) (vs:=f.vals) (c:=c)
    refine ⟨⟨hd.2.2.1.trans h.begun,hd.1.trans h.ops,h.good,fun hn => ?_⟩,fun hr => ?_⟩
    · rw [hd.2.1,hf] at hn;cases hn
    · obtain ⟨_,_,w0,w1,_⟩:=resultC_ok hr
      rw [doneL_full (fun n hn=>((AtOk_of hz).mem n hn).1) fun i hi=>result_has w0 w1 hi]
end Go.Proofs.Yteilffoclpgijaa
