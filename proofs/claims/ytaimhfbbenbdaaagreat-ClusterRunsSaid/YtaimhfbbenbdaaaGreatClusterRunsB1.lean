/- What the proof of ClusterRuns rests on, part 1: rules of walks, what functions compute, and plain laws of it. -/
import Derived.WalkKit
import Derived.WalkSpells
import Derived.WalkLawsBesides
import Derived.OrdersHeld
import Derived.Deep.MidRow
import Derived.Maps.AppendAt
import Derived.BigQuiet
import Derived.Lib.Hide
import Derived.Deep.QuietTactic
import Derived.Deep.DeepFit
import Derived.Laws.BytesArg
import Derived.Lib.Strings
import Derived.Laws.StructEq
import Derived.ChangeKeysEq
import Derived.Test.YtaimhfbbenbdaaaGreatRows
namespace Go.Proofs.YtaimhfbbenbdaaaGreat
set_option linter.unusedVariables false
open Go.RowKit
theorem E8 {p:Prop} (h:p:=by omega):p:=h
theorem E9 {p:Prop} (h:p:=by decide):p:=h
theorem Ga {p:Prop} (h:p:=by kernel_rfl):p:=h
abbrev Ba := @Array.getD_eq_getD_getElem?
abbrev Em := @Bool.eq_false_iff
abbrev D5 := @Nat.eq_of_beq_eq_true
abbrev Dl := @Nat.le_of_ble_eq_true
abbrev X1 := @Bool.and_eq_true
abbrev Tm:=Nat→Value
def upd (T:Tm) (d:Nat) (v:Value):Tm:=fun k=>bif Nat.beq k d then v else T k
def evT (T:Tm):Operand→Value
 | .tmp t=>T t
 | .const v=>v
 | .global g => .pointer (some ⟨g,0,none⟩)
 | .func f => .func (.func f) #[] #[]
def qrd (T:Tm):Option Nat→Value→Tm
 | some d,v=>upd T d v
 | none,_=>T
def Fr (n:Nat) (T:Tm) (a:Act):Prop:=a.tmps.size=n∧a.defers=[]∧∀ k,a.tmps.getD k undef=T k
theorem Fr.eval {n:Nat} {T:Tm} {a:Act} (h:Fr n T a):a.eval=evT T:=by
 funext x;cases x with
 | tmp t=>exact h.2.2 t
 | _=>rfl
theorem Fr.put {n:Nat} {T:Tm} {a:Act} (h:Fr n T a) (dst:Option Nat) (v:Value) (hd:∀ d,dst=some d→d<n):Fr n (qrd T dst v) (a.put dst v):=by
 cases dst with
 | none=>exact h
 | some d =>
  have hd:=hd d rfl;refine ⟨by simp [Act.put,h.1],h.2.1,fun k=>?_⟩;simp only [Act.put,qrd,upd];rw [Ba,Array.getElem?_setIfInBounds];by_cases e:k=d
  ·subst e;have hb:Nat.beq k k=true:=Nat.beq_refl k;rw [hb,if_pos rfl,if_pos (by rw [h.1];exact hd)];rfl
  ·have hb:Nat.beq k d=false:=Em.2 fun h=>e (D5 h);rw [if_neg (fun h=>e h.symm),hb,← Ba];exact h.2.2 k
def operOk (n:Nat) (o:Oper):Bool:=match o.dst with | some d=>Nat.blt d n | none=>true
def qg0 (n:Nat):Code→Bool
 | .region _ ops _=>ops.toList.all (operOk n)
 | .seq a b=>qg0 n a&&qg0 n b
 | .cond _ a b=>qg0 n a&&qg0 n b
 | .block _ b=>qg0 n b
 | .loop b=>qg0 n b
 | .scope b=>qg0 n b
 | _=>true
theorem operOk.lt {n:Nat} {o:Oper} (h:operOk n o=true):∀ d,o.dst=some d→d<n:=by
 intro d hd;unfold operOk at h;rw [hd] at h;exact Dl h
def Qx (n:Nat) (Q:Exit→Tm→World→Prop):Exit→Act→World→Prop:=fun e a w =>
 match e with
 | .panic _=>False
 | .outgrown=>False
 | e=>∃ T,Fr n T a∧Q e T w
section
variable {P:Program} {n:Nat} {Q:Exit→Tm→World→Prop} {T:Tm} {w:World}
def W (P:Program) (n:Nat) (c:Code) (Q:Exit→Tm→World→Prop) (T:Tm) (w:World):Prop :=
 qg0 n c=true→∀ a,Fr n T a→c.wp P (Qx n Q) a w
def qvm (next:Tm→World→Prop) (Q:Exit→Tm→World→Prop):Exit→Tm→World→Prop:=fun e T w =>
 match e with
 | .normal=>next T w
 | e=>Q e T w
def zcl (id:Nat) (Q:Exit→Tm→World→Prop):Exit→Tm→World→Prop:=fun e T w =>
 match e with
 | .exit id'=>bif Nat.beq id' id then Q .normal T w else Q (.exit id') T w
 | e=>Q e T w
theorem zaw {x y:Code} (h:W P n x (qvm (W P n y Q) Q) T w):W P n (.seq x y) Q T w:=by
 intro hok a ha;simp only [qg0,X1] at hok;refine wp_seq (wp_mono (h hok.1 a ha) ?_);intro e a' w' hq;cases e<;>simp only [Qx,qvm,Exit.then] at hq ⊢ <;> try exact hq
 obtain ⟨T',hf,hw⟩:=hq;exact hw hok.2 a' hf
theorem zax {id:Nat} {c:Code} (h:W P n c (zcl id Q) T w):W P n (.block id c) Q T w:=by
 intro hok a ha;refine wp_block (wp_mono (h hok a ha) ?_);intro e a' w' hq;cases e<;>simp only [Qx,zcl,Exit.inBlock] at hq ⊢ <;> try exact hq
 rename_i id';obtain ⟨T',hf,hw⟩:=hq;by_cases hid:id'=id
 ·subst hid;rw [Nat.beq_refl] at hw;rw [if_pos rfl];exact ⟨T',hf,hw⟩
 ·have hb:Nat.beq id' id=false:=Em.2 fun h=>hid (D5 h);rw [hb] at hw;rw [if_neg hid];exact ⟨T',hf,hw⟩
theorem q3f {c:Operand} {x y:Code} {b:Bool} (hc:evT T c= .bool b) (ht:b=true→W P n x Q T w) (hf:b=false→W P n y Q T w):W P n (.cond c x y) Q T w:=by
 intro hok a ha;simp only [qg0,X1] at hok;exact wp_cond_split (by rw [ha.eval];exact hc) (fun h=>ht h hok.1 a ha) (fun h=>hf h hok.2 a ha)
theorem q83 {c:Operand} {x y:Code} (hc:evT T c= .bool false) (hf:W P n y Q T w):W P n (.cond c x y) Q T w :=
 q3f hc (fun h=>by cases h) (fun _=>hf)
theorem zcw (h:Q .normal T w):W P n .skip Q T w:=fun _ _ ha=>wp_skip ⟨T,ha,h⟩
theorem zcx {id:Nat} (h:Q (.exit id) T w):W P n (.exit id) Q T w:=fun _ _ ha=>wp_exit ⟨T,ha,h⟩
theorem zfw (h:Q .ret T w):W P n .ret Q T w:=fun _ _ ha=>wp_ret ⟨T,ha,h⟩
theorem q6b {c:Code} {Q':Exit→Tm→World→Prop} (hq:∀ e T w,Q e T w→Q' e T w) (h:W P n c Q T w):W P n c Q' T w:=by
 intro hok a ha;refine wp_mono (h hok a ha) ?_;intro e a' w' hx;cases e<;>simp only [Qx] at hx ⊢ <;> first | exact hx | (obtain ⟨T',hf,hw⟩:=hx;exact ⟨T',hf,hq _ _ _ hw⟩)
theorem zcy {c:Code} (I:Nat→Tm→World→Prop) (m:Nat) (h0:I m T w) (hz:∀ T w,¬ I 0 T w)
 (hs:∀ k T w,I (k+1) T w→W P n c (qvm (I k) Q) T w):W P n (.loop c) Q T w:=by
 intro hok a ha;have hok':qg0 n c=true:=hok;intro b k cs;have key:∀ m a T w,Fr n T a→I m T w →
  ∃ e a' w',Qx n Q e a' w'∧Arrives P (lone (b.at a (.code c :: .inLoop c::k)) cs w) b k cs e a' w':=by
  intro m
  induction m with
  | zero=>intro a T w _ hI;exact absurd hI (hz _ _)
  | succ m ih =>
   intro a T w hf hI;obtain ⟨e,a₁,w₁,hq,harr⟩:=hs m T w hI hok' a hf b (.inLoop c::k) cs;cases e with
   | normal =>
    obtain ⟨T',hf',hI'⟩:=hq;obtain ⟨e₂,a₂,w₂,hq₂,harr₂⟩:=ih a₁ T' w₁ hf' hI';exact ⟨e₂,a₂,w₂,hq₂,.of_steps (Steps.trans harr (.one step_inLoop)) harr₂⟩
   | exit id=>exact ⟨.exit id,a₁,w₁,(show Qx n Q (.exit id) a₁ w₁ from hq),.pass (x:= .inLoop c) rfl (fun _ _ => .inl (by simp)) harr⟩
   | goto l=>exact ⟨.goto l,a₁,w₁,(show Qx n Q (.goto l) a₁ w₁ from hq),.pass (x:= .inLoop c) rfl (fun _ _ => .inl (by simp)) harr⟩
   | ret=>exact ⟨.ret,a₁,w₁,(show Qx n Q .ret a₁ w₁ from hq),.pass (x:= .inLoop c) rfl (fun _ _ => .inl (by simp)) harr⟩
   | panic ch=>exact hq.elim
   | outgrown=>exact hq.elim
 obtain ⟨e,a',w',hq,harr⟩:=key m a T w ha h0;exact ⟨e,a',w',hq,.of_steps (.one step_loop) harr⟩
end
abbrev Dc := @List.all_cons
abbrev Ae := @Option.getD_some
section
variable {P:Program} {n:Nat} {Q:Exit→Tm→World→Prop} {T:Tm} {w:World} {ops:Array Oper} {rest:List Oper} {o:Oper}
def OW (P:Program) (n:Nat) (Q:Exit→Tm→World→Prop) (o:Oper) (T:Tm) (w:World) (K:Tm→World→Prop):Prop :=
 operOk n o=true→∀ a,Fr n T a→o.wp P a w (fun a' w'=>∃ T',Fr n T' a'∧K T' w') (Qx n Q)
def YV (P:Program) (S:World→Prop) (T:Tm) (o:Oper) (v:Value):Prop:=∀ w,S w→(execOp (evT T) o).run P w= .ok (.value v) w
def WL (P:Program) (n:Nat) (ops:Array Oper) (Q:Exit→Tm→World→Prop) (l:List Oper) (T:Tm) (w:World):Prop :=
 l.all (operOk n)=true→∀ a,Fr n T a→wpList P ops (Qx n Q) l a w
theorem zcz {id:Nat} {l:List Oper} (h:WL P n l.toArray Q l T w):W P n (.region id l.toArray false) Q T w:=by
 intro hok a ha;exact wp_region_lit (h (by simpa [qg0] using hok) a ha)
theorem zae (h:Q .normal T w):WL P n ops Q [] T w:=fun _ _ ha=>wpList_nil ⟨T,ha,h⟩
theorem q1i (hg:∀ a,Fr n T a→Region.wanted o (yielded ops a.tmps)=true) (h:OW P n Q o T w (WL P n ops Q rest)):WL P n ops Q (o::rest) T w:=by
 intro hok a ha;simp only [Dc,X1] at hok;refine wpList_step fun K hK=>?_;rw [if_pos (hg a ha)];exact Oper.wp_mono (fun a' w' ⟨T',hf,hw⟩=>hK a' w' (hw hok.2 a' hf)) (h hok.1 a ha)
theorem OW.of_val {S:World→Prop} {v:Value} {K:Tm→World→Prop} (h:YV P S T o v) (hS:S w) (k:K (qrd T o.dst v) w):OW P n Q o T w K:=by
 intro hok a ha;unfold Oper.wp;rw [ha.eval,h w hS];exact ⟨_,ha.put o.dst v (operOk.lt hok),k⟩
theorem WL_c {d:Option Nat} {op:Op} {ty:TypeId} {pos:String} {af:Array Edge} (h:OW P n Q ⟨d,op,ty,pos,af,none⟩ T w (WL P n ops Q rest)):WL P n ops Q (⟨d,op,ty,pos,af,none⟩::rest) T w :=
 q1i (fun _ _=>rfl) h
theorem WL_y {d:Nat} {op:Op} {ty:TypeId} {pos:String} {af:Array Edge} {v:Value} (h:YV P (· = w) T ⟨some d,op,ty,pos,af,none⟩ v) (k:WL P n ops Q rest (upd T d v) w):WL P n ops Q (⟨some d,op,ty,pos,af,none⟩::rest) T w :=
 WL_c (OW.of_val h rfl k)
theorem qii {d:Option Nat} {op:Op} {ty:TypeId} {pos:String} {af:Array Edge} {j:Nat} {b b':Bool} {t:Nat} {a:Act} (hf:Fr n T a) (hj:(ops[j]?).bind (·.dst)=some t) (hT:T t= .bool b) :
 Region.wanted ⟨d,op,ty,pos,af,some (j,b')⟩ (yielded ops a.tmps)=(b==b'):=by
 simp only [Region.wanted,yielded];rw [hj];have h:=hf.2.2 t;rw [hT] at h;rw [Ba] at h;cases hx:a.tmps[t]? with
 | none=>rw [hx] at h;simp [undef] at h
 | some v =>
  rw [hx] at h;simp only [Ae] at h;subst h;simp [hx]
theorem WL_g {d:Option Nat} {op:Op} {ty:TypeId} {pos:String} {af:Array Edge} {j t:Nat} {b:Bool} (hj:(ops[j]?).bind (·.dst)=some t) (hT:T t= .bool b) (h:OW P n Q ⟨d,op,ty,pos,af,some (j,b)⟩ T w (WL P n ops Q rest)) :
 WL P n ops Q (⟨d,op,ty,pos,af,some (j,b)⟩::rest) T w :=
 q1i (fun _ ha=>by rw [qii ha hj hT];simp) h
theorem zc0 {d:Nat} {op:Op} {ty:TypeId} {pos:String} {af:Array Edge} {v:Value} {j t:Nat} {b:Bool} (hj:(ops[j]?).bind (·.dst)=some t) (hT:T t= .bool b) (h:YV P (· = w) T ⟨some d,op,ty,pos,af,some (j,b)⟩ v) (k:WL P n ops Q rest (upd T d v) w) :
 WL P n ops Q (⟨some d,op,ty,pos,af,some (j,b)⟩::rest) T w :=
 WL_g hj hT (OW.of_val h rfl k)
theorem WL_s {d:Option Nat} {op:Op} {ty:TypeId} {pos:String} {af:Array Edge} {j t:Nat} {b b':Bool} (hj:(ops[j]?).bind (·.dst)=some t) (hT:T t= .bool b) (hb:(b==b')=false) (k:WL P n ops Q rest (qrd T d undef) w) :
 WL P n ops Q (⟨d,op,ty,pos,af,some (j,b')⟩::rest) T w:=by
 intro hok a ha;simp only [Dc,X1] at hok;refine wpList_step fun K hK=>?_;rw [if_neg (by rw [qii ha hj hT,hb];simp)];exact hK _ _ (k hok.2 _ (ha.put d undef (operOk.lt hok.1)))
end
theorem q4m {P:Program} {f:FuncId} {fn:Func} {c:Code} {args:Array Value} {w:World} {R:Ending→World→Prop} (hf:P.funcs[f]? = some fn) (hb:fn.body=some c) (hn:args.size≤fn.ntmps) (hok:qg0 fn.ntmps c=true)
 (h:∀ T:Tm,(∀ k,T k=(args++Array.replicate (fn.ntmps-args.size) undef).getD k undef)→W P fn.ntmps c (fun e T w=>match e with | .normal | .ret=>∀ tmps:Array Value,(∀ k,tmps.getD k undef=T k)→∃ v,(results fn tmps).run P w= .ok v w∧R (.returned v) w | _=>False) T w) :
 Calls P f args w R:=by
 refine calls_of_wp hf hb ?_;refine wp_mono (h _ (fun _=>rfl) hok _ ⟨by simp;omega,rfl,fun _=>rfl⟩) ?_;intro e a w' hq;cases e<;>simp only [Qx] at hq<;>first | exact hq.elim | skip
 ·obtain ⟨T,hf,hx⟩:=hq;obtain ⟨v,h1,h2⟩:=hx _ hf.2.2;exact ⟨hf.2.1,v,h1,h2⟩
 ·obtain ⟨T,hf,hx⟩:=hq;exact hx.elim
 ·obtain ⟨T,hf,hx⟩:=hq;exact hx.elim
 ·obtain ⟨T,hf,hx⟩:=hq;obtain ⟨v,h1,h2⟩:=hx _ hf.2.2;exact ⟨hf.2.1,v,h1,h2⟩
abbrev Bd := @List.getElem?_take
abbrev Dz := @List.ext_getElem?
abbrev Dk := @Nat.add_assoc
abbrev An := @List.getElem?_append_left
abbrev Al := @List.append_assoc
abbrev Bb := @List.getElem?_append_right
abbrev De := @List.getElem?_drop
abbrev Bl := @List.getElem?_eq_none
abbrev Be := @List.drop_drop
abbrev Bv := @List.prefix_refl
abbrev Bh := @Array.getElem?_eq_some_iff
abbrev Ar := @Nat.le_trans
abbrev Aa := @Nat.le_refl
abbrev Au := @List.getElem?_of_mem
abbrev Xz := @List.getElem?_eq_some_iff
abbrev Ev := @Nat.mul_comm
abbrev X7 := @List.mem_of_getElem?
abbrev A1 := @Nat.lt_of_lt_of_le
abbrev X3 := @List.mem_cons
abbrev X0 := @List.mem_cons_of_mem
abbrev Ax := @List.pairwise_cons
abbrev X2 := @List.mem_cons_self
def sl (cs:List Value) (o n:Nat):List Value:=(cs.drop o).take n
def pt (cs:List Value) (o:Nat) (ws:List Value):List Value:=cs.take o++ws++cs.drop (o+ws.length)
theorem qpl {cs:List Value} {o n:Nat} (h:o+n≤cs.length):(sl cs o n).length=n:=by simp [sl];omega
theorem zay {cs:List Value} {o n:Nat} (h:(sl cs o n).length=n) (hn:0<n):o+n≤cs.length:=by simp [sl] at h;omega
theorem qg1 (cs:List Value) (o n j:Nat) (h:j<n):(sl cs o n)[j]? = cs[o+j]? := by simp [sl,h]
theorem qby (cs:List Value) (o n j:Nat) (h:n≤j):(sl cs o n)[j]? = none:=by simp [sl,Bd];omega
theorem qo0 {a b:List Value} (h:∀ j:Nat,a[j]? = b[j]?):a=b:=Dz h
theorem qxr (cs:List Value) {o1 n1 o2 n2:Nat} (h:o2+n2≤n1):sl (sl cs o1 n1) o2 n2=sl cs (o1+o2) n2:=by
 refine qo0 fun j=>?_;by_cases hj:j<n2
 ·rw [qg1 _ _ _ _ hj,qg1 _ _ _ _ E8,qg1 _ _ _ _ hj,Dk]
 ·rw [qby _ _ _ _ E8,qby _ _ _ _ E8]
theorem qv5 (cs:List Value):sl cs 0 cs.length=cs:=by simp [sl]
theorem qti {p p':List Value} (h:p <+: p') {o n:Nat} (hn:o+n≤p.length):sl p' o n=sl p o n:=by
 obtain ⟨t,rfl⟩:=h;refine qo0 fun j=>?_;by_cases hj:j<n
 ·rw [qg1 _ _ _ _ hj,qg1 _ _ _ _ hj,An E8]
 ·rw [qby _ _ _ _ E8,qby _ _ _ _ E8]
theorem qjt {cs:List Value} {o:Nat} {ws:List Value} (h:o+ws.length≤cs.length):(pt cs o ws).length=cs.length:=by simp [pt];omega
theorem q3g {cs:List Value} {o:Nat} {ws:List Value} (h:o+ws.length≤cs.length) (j:Nat):(pt cs o ws)[j]? = if o≤j∧j<o+ws.length then ws[j-o]? else cs[j]? := by
 unfold pt;by_cases h1:j<o
 ·rw [Al,An (by simp;omega),if_neg E8,Bd,if_pos h1]
 ·by_cases h2:j<o+ws.length
  ·rw [if_pos E8,An (by simp;omega),Bb (by simp;omega)];congr 1;simp;omega
  ·rw [if_neg E8,Bb (by simp;omega),De];congr 1;simp;omega
theorem qre {cs:List Value} {o:Nat} {ws:List Value} (h:o+ws.length≤cs.length) {n:Nat} (hn:ws.length=n):sl (pt cs o ws) o n=ws:=by
 subst hn;refine qo0 fun j=>?_;by_cases hj:j<ws.length
 ·rw [qg1 _ _ _ _ hj,q3g h,if_pos E8];congr 1;omega
 ·rw [qby _ _ _ _ E8,Bl E8]
theorem qij {cs:List Value} {o:Nat} {ws:List Value} (h:o+ws.length≤cs.length) {o' n':Nat} (ha:o'+n'≤o∨o+ws.length≤o'):sl (pt cs o ws) o' n'=sl cs o' n':=by
 refine qo0 fun j=>?_;by_cases hj:j<n'
 ·rw [qg1 _ _ _ _ hj,q3g h,if_neg E8,qg1 _ _ _ _ hj]
 ·rw [qby _ _ _ _ E8,qby _ _ _ _ E8]
theorem q3h (cs:List Value) (o n m:Nat):sl cs o n++sl cs (o+n) m=sl cs o (n+m):=by
 simp only [sl];rw [List.take_add,Be]
abbrev Mm:=Nat→Option (List Value)
def Mm.le (M M':Mm):Prop:=∀ b p,M b=some p→∃ p',M' b=some p'∧p <+: p'
theorem Mm.le.refl (M:Mm):M.le M:=fun _ p h=>⟨p,h,Bv _⟩
theorem Mm.le.trans {A B C:Mm} (h:A.le B) (k:B.le C):A.le C:=fun b p hp =>
 let ⟨p1,h1,e1⟩:=h b p hp
 let ⟨p2,h2,e2⟩:=k b p1 h1
 ⟨p2,h2,e1.trans e2⟩
def Agree (M:Mm) (w:World):Prop:=∀ b p,M b=some p→∃ cs t fr,w.heap[b]? = some (.cells cs t fr)∧p <+: cs.toList
theorem Agree.lt {M:Mm} {w:World} (h:Agree M w) {b:Nat} {p:List Value} (hb:M b=some p):b<w.heap.size:=by
 obtain ⟨cs,t,fr,hh,_⟩:=h b p hb;exact (Bh.1 hh).1
class Rep (α : Type) where
 k:Nat
 bytes:Nat
 rep:Mm→List Value → α → Prop
 len:∀ {M cs d},rep M cs d→cs.length=k
 mono:∀ {M M':Mm} {cs d},M.le M'→rep M cs d→rep M' cs d
 one:∀ {M cs d},rep M cs d→∀ u∈cs,u.oneCell'=true
open Rep (rep)
instance:Rep Int where
 k:=1
 bytes:=8
 rep _ cs x:=cs=[.int .i64 x]
 len h:=by rw [h];rfl
 mono _ h:=h
 one h:=by rw [h];simp [Value.oneCell']
instance:Rep Bool where
 k:=1
 bytes:=1
 rep _ cs x:=cs=[.bool x]
 len h:=by rw [h];rfl
 mono _ h:=h
 one h:=by rw [h];simp [Value.oneCell']
instance:Rep ByteArray where
 k:=1
 bytes:=16
 rep _ cs x:=cs=[.string x]∧x.size≤140737488351232
 len h:=by rw [h.1];rfl
 mono _ h:=h
 one h:=by rw [h.1];simp [Value.oneCell']
structure Byt where
 val:Int
deriving DecidableEq,Inhabited
instance:Rep Byt where
 k:=1
 bytes:=1
 rep _ cs x:=cs=[.int .u8 x.val]
 len h:=by rw [h];rfl
 mono _ h:=h
 one h:=by rw [h];simp [Value.oneCell']
def repL {α : Type} [Rep α] (M:Mm) (v:Value) (l:List α):Prop :=
 ∃ a cap,v= .slice a l.length cap∧l.length≤cap∧(a=none→cap=0)∧l.length*Rep.bytes α ≤ 140737488351232 ∧
  ∀ i x,l[i]? = some x→∃ b off p,a=some ⟨b,off,none⟩∧M b=some p∧off+i*Rep.k α + Rep.k α ≤ p.length∧rep M (sl p (off+i*Rep.k α) (Rep.k α)) x
theorem repL.mono {α : Type} [Rep α] {M M':Mm} {v:Value} {l:List α} (hm:M.le M') (h:repL M v l):repL M' v l:=by
 obtain ⟨a,cap,rfl,h1,h2,h3,h4⟩:=h;refine ⟨a,cap,rfl,h1,h2,h3,fun i x hx=>?_⟩;obtain ⟨b,off,p,ha,hb,hl,hr⟩:=h4 i x hx;obtain ⟨p',hb',hp⟩:=hm b p hb;exact ⟨b,off,p',ha,hb',Ar hl hp.length_le,by rw [qti hp hl];exact Rep.mono hm hr⟩
instance {α : Type} [Rep α]:Rep (List α) where
 k:=1
 bytes:=24
 rep M cs l:=∃ v,cs=[v]∧repL M v l
 len h:=by obtain ⟨v,rfl,_⟩:=h;rfl
 mono hm h:=by obtain ⟨v,rfl,h⟩:=h;exact ⟨v,rfl,h.mono hm⟩
 one h:=by
  obtain ⟨v,rfl,a,cap,rfl,_⟩:=h;simp [Value.oneCell']
theorem qs2 {α : Type} [Rep α] (M:Mm):repL M (.slice none 0 0) ([]:List α):=⟨none,0,rfl,Aa _,fun _=>rfl,by simp,fun i x h=>by simp at h⟩
theorem q6c {cs:List Value} {k n:Nat} (hl:cs.length=n*k) (hk:0<k) {u:Value} (hu:u∈cs):∃ i,i<n∧u∈sl cs (i*k) k:=by
 obtain ⟨j,hj⟩:=Au hu;have hlt:j<cs.length:=(Xz.1 hj).1;refine ⟨j / k,Nat.div_lt_of_lt_mul (by rw [Ev];omega),?_⟩;refine X7 (i:=j%k) ?_;rw [qg1 _ _ _ _ (Nat.mod_lt _ hk),← hj];congr 1;rw [Ev];exact Nat.div_add_mod j k
instance {α : Type} [Rep α] {n:Nat}:Rep (Vector α n) where
 k:=n*Rep.k α
 bytes:=n*Rep.bytes α
 rep M cs v:=cs.length=n*Rep.k α ∧ (0<Rep.k α ∨ n=0)∧∀ i (h:i<n),rep M (sl cs (i*Rep.k α) (Rep.k α)) v[i]
 len h:=h.1
 mono hm h:=⟨h.1,h.2.1,fun i hi=>Rep.mono hm (h.2.2 i hi)⟩
 one h:=fun u hu=>by
  obtain ⟨h1,h2 | rfl,h3⟩:=h
  ·obtain ⟨i,hi,hm⟩:=q6c h1 h2 hu;exact Rep.one (h3 i hi) u hm
  ·simp at h1;subst h1;simp at hu
inductive Ent where
 | box (b:Nat) (cs:List Value) (t:TypeId)
 | row (v:Value) (e:TypeId) (k:Nat)
 | stk (v:Value) (e:TypeId) (k:Nat) (xs:List Value)
def Ent.blk:Ent→Option Nat
 | .box b _ _=>some b
 | .row v _ _=>v.ownBlock
 | .stk v _ _ _=>v.ownBlock
def zfx (M:Mm) (w:World) (v:Value) (e:TypeId) (k:Nat):Prop:=∃ n xs,w.ownsRow 0 e k v n xs∧∀ g,v.ownBlock=some g→M g=some xs
def zfy (M:Mm) (w:World) (v:Value) (e:TypeId) (k:Nat) (xs:List Value):Prop:=(∃ n,w.ownsRow 0 e k v n xs)∧∀ g,v.ownBlock=some g→M g=none
def Ent.holds (M:Mm) (w:World):Ent→Prop
 | .box b cs t=>w.heap[b]? = some (.cells cs.toArray t (0,0))∧M b=none
 | .row v e k=>zfx M w v e k
 | .stk v e k xs=>zfy M w v e k xs
theorem Ent.lt {M:Mm} {w:World} {e:Ent} (h:e.holds M w) {b:Nat} (hb:e.blk=some b):b<w.heap.size:=by
 cases e with
 | box b' cs t =>
  cases hb;exact (Bh.1 h.1).1
 | row v e k =>
  obtain ⟨n,xs,⟨_,h | ⟨g,cap,cur,rfl,_,hh,_⟩⟩,_⟩:=h
  ·obtain ⟨rfl,_⟩:=h;cases hb
  ·cases hb;exact (Bh.1 hh).1
 | stk v e k ys =>
  obtain ⟨⟨n,_,h | ⟨g,cap,cur,rfl,_,hh,_⟩⟩,_⟩:=h
  ·obtain ⟨rfl,_⟩:=h;cases hb
  ·cases hb;exact (Bh.1 hh).1
def noX:Nat→Prop:=fun _=>False
structure St (w0:World) (X:Nat→Prop) (M:Mm) (H:List Ent) (w:World):Prop where
 os:w.os=w0.os
 tape:w.tape=w0.tape
 output:w.output=w0.output
 size:w0.heap.size≤w.heap.size
 frame:∀ k,k<w0.heap.size→¬ X k→w.heap[k]? = w0.heap[k]?
 agree:Agree M w
 ents:∀ e∈H,e.holds M w
 mine:∀ e∈H,∀ b,e.blk=some b→X b∨w0.heap.size≤b
 apart:H.Pairwise (fun e f=>∀ b,e.blk=some b→f.blk≠some b)
theorem St.start {w:World} {X:Nat→Prop} {M:Mm} (h:Agree M w):St w X M [] w:=⟨rfl,rfl,rfl,Aa _,fun _ _ _=>rfl,h,by simp,by simp,.nil⟩
theorem St.drew {w0 w:World} {X:Nat→Prop} {M:Mm} {H:List Ent} (h:St w0 X M H w):St w0 X M H w.drew:=⟨h.os,h.tape,h.output,h.size,h.frame,h.agree,h.ents,h.mine,h.apart⟩
structure Kept (w w':World):Prop where
 os:w'.os=w.os
 tape:w'.tape=w.tape
 output:w'.output=w.output
 size:w.heap.size≤w'.heap.size
 block:∀ k,k<w.heap.size→w'.heap[k]? = w.heap[k]?
theorem Kept.of_below {w w':World} (h:Below w.heap.size w w'):Kept w w':=⟨h.os,h.tape,h.output,h.size,h.block⟩
theorem Kept.below {w w':World} (h:Kept w w'):Below w.heap.size w w':=⟨h.os,h.tape,h.output,h.size,h.block⟩
theorem Kept.refl (w:World):Kept w w:=⟨rfl,rfl,rfl,Aa _,fun _ _=>rfl⟩
theorem Kept.trans {a b c:World} (h:Kept a b) (k:Kept b c):Kept a c :=
 ⟨k.os.trans h.os,k.tape.trans h.tape,k.output.trans h.output,Ar h.size k.size,fun i hi=>(k.block i (A1 hi h.size)).trans (h.block i hi)⟩
theorem St.kept {w0 w:World} {M:Mm} {H:List Ent} (h:St w0 noX M H w):Kept w0 w:=⟨h.os,h.tape,h.output,h.size,fun k hk=>h.frame k hk (fun hx=>hx.elim)⟩
def Mm.new (M M':Mm) (n:Nat):Prop:=∀ b,b<n→M' b=M b
def Mm.ext (n:Nat) (X:Nat→Prop) (M M':Mm):Prop:=M.le M'∧∀ b,b<n→¬ X b→M' b=M b
theorem Mm.ext.refl (n:Nat) (X:Nat→Prop) (M:Mm):Mm.ext n X M M:=⟨Mm.le.refl M,fun _ _ _=>rfl⟩
theorem Mm.ext.trans {n:Nat} {X:Nat→Prop} {A B C:Mm} (h:Mm.ext n X A B) (k:Mm.ext n X B C):Mm.ext n X A C:=⟨h.1.trans k.1,fun b hb hx=>(k.2 b hb hx).trans (h.2 b hb hx)⟩
theorem Mm.ext.new {n:Nat} {M M':Mm} (h:Mm.ext n noX M M'):M.new M' n:=fun b hb=>h.2 b hb (fun hx=>hx.elim)
theorem qlm {w w':World} {base:Nat} {e:TypeId} {k:Nat} {v:Value} {n:Nat} {xs:List Value} (h:w.ownsRow base e k v n xs) (hb:∀ g,v.ownBlock=some g→w'.heap[g]? = w.heap[g]?):w'.ownsRow base e k v n xs:=by
 obtain ⟨h1,h2 | ⟨g,cap,cur,rfl,hg,hh,r⟩⟩:=h
 ·exact ⟨h1,.inl h2⟩
 ·exact ⟨h1,.inr ⟨g,cap,cur,rfl,hg,by rw [hb g rfl];exact hh,r⟩⟩
theorem Ent.kept {M M':Mm} {w w':World} {e:Ent} (h:e.holds M w) (hw:∀ b,e.blk=some b→w'.heap[b]? = w.heap[b]? ∧ M' b=M b):e.holds M' w':=by
 cases e with
 | box b cs t=>exact ⟨(hw b rfl).1.trans h.1,(hw b rfl).2.trans h.2⟩
 | row v e k =>
  obtain ⟨n,xs,h1,h2⟩:=h;exact ⟨n,xs,qlm h1 fun g hg=>(hw g hg).1,fun g hg=>(hw g hg).2.trans (h2 g hg)⟩
 | stk v e k ys =>
  obtain ⟨⟨n,h1⟩,h2⟩:=h;exact ⟨⟨n,qlm h1 fun g hg=>(hw g hg).1⟩,fun g hg=>(hw g hg).2.trans (h2 g hg)⟩
section
variable {w0 w w':World} {X:Nat→Prop} {M M':Mm} {H:List Ent}
theorem St.call (h:St w0 X M H w) (hk:Kept w w') (hn:M.new M' w.heap.size) (ha:Agree M' w'):St w0 X M' H w':=by
 refine ⟨hk.os.trans h.os,hk.tape.trans h.tape,hk.output.trans h.output,Ar h.size hk.size,fun k hlt hno=>(hk.block k (A1 hlt h.size)).trans (h.frame k hlt hno),ha,fun e he=>?_,h.mine,h.apart⟩;exact Ent.kept (h.ents e he) fun b hb=>have:=Ent.lt (h.ents e he) hb;⟨hk.block b this,hn b this⟩
theorem Agree.kept (h:Agree M w) (hk:Kept w w'):Agree M w':=fun b p hb=>by
 obtain ⟨cs,t,fr,h1,h2⟩:=h b p hb;exact ⟨cs,t,fr,(hk.block b (h.lt hb)).trans h1,h2⟩
theorem St.call0 (h:St w0 X M H w) (hk:Kept w w'):St w0 X M H w':=h.call hk (fun _ _=>rfl) (h.agree.kept hk)
theorem Mm.new.le (h:M.new M' w.heap.size) (ha:Agree M w):M.le M':=fun b p hb=>⟨p,by rw [h b (ha.lt hb)];exact hb,Bv _⟩
theorem St.alloc (h:St w0 X M H w) (cs:List Value) (t:TypeId):St w0 X M (.box w.heap.size cs t::H) (w.alloc (.cells cs.toArray t)):=by
 have hsz:(w.alloc (.cells cs.toArray t)).heap.size=w.heap.size+1:=by simp
 have hold:∀ k,k<w.heap.size→(w.alloc (.cells cs.toArray t)).heap[k]? = w.heap[k]? := fun k hk=>Below.heap_alloc _ _ _ hk;refine ⟨h.os,h.tape,h.output,by have:=h.size;omega,fun k hk hno=>(hold k (A1 hk h.size)).trans (h.frame k hk hno),fun b p hb=>?_,fun e he=>?_,fun e he b hb=>?_,?_⟩
 ·obtain ⟨c,t',fr,h1,h2⟩:=h.agree b p hb;exact ⟨c,t',fr,(hold b (h.agree.lt hb)).trans h1,h2⟩
 ·rcases X3.1 he with rfl | he
  ·refine ⟨?_,?_⟩
   ·show (w.heap.push _)[w.heap.size]? = _;simp
   ·cases hm:M w.heap.size with
    | none=>rfl
    | some p=>have:=h.agree.lt hm;omega
  ·exact Ent.kept (h.ents e he) fun b hb=>⟨hold b (Ent.lt (h.ents e he) hb),rfl⟩
 ·rcases X3.1 he with rfl | he
  ·cases hb;exact .inr h.size
  ·exact h.mine e he b hb
 ·refine .cons (fun e he b hb hb'=>?_) h.apart;cases hb;have:=Ent.lt (h.ents e he) hb';omega
def Mm.put (M:Mm) (b:Nat) (p:List Value):Mm:=fun k=>if k=b then some p else M k
theorem Mm.put_same (M:Mm) (b:Nat) (p:List Value):M.put b p b=some p:=by simp [Mm.put]
theorem Mm.put_other (M:Mm) {b k:Nat} (p:List Value) (h:k≠b):M.put b p k=M k:=by simp [Mm.put,h]
theorem St.none_at (h:St w0 X M H w) {b:Nat} (hb:w.heap.size≤b):M b=none:=by
 cases hm:M b with
 | none=>rfl
 | some p=>have:=h.agree.lt hm;omega
theorem Mm.put_le {b:Nat} (p:List Value) (h:M b=none):M.le (M.put b p):=fun k q hk=>by
 refine ⟨q,?_,Bv _⟩;rw [Mm.put_other]
 ·exact hk
 ·intro e;subst e;rw [h] at hk;cases hk
theorem St.extM (h:St w0 X M H w) (p:List Value):Mm.ext w0.heap.size X M (M.put w.heap.size p) :=
 ⟨Mm.put_le p (h.none_at (Aa _)),fun b hb _=>Mm.put_other _ _ (by have:=h.size;omega)⟩
theorem St.ext (h:St w0 X M H w) (hn:M.new M' w.heap.size):Mm.ext w0.heap.size X M M':=⟨hn.le h.agree,fun b hb _=>hn b (A1 hb h.size)⟩
theorem St.allocM (h:St w0 X M H w) (cs:List Value) (t:TypeId):St w0 X (M.put w.heap.size cs) H (w.alloc (.cells cs.toArray t)):=by
 have hsz:(w.alloc (.cells cs.toArray t)).heap.size=w.heap.size+1:=by simp
 have hold:∀ k,k<w.heap.size→(w.alloc (.cells cs.toArray t)).heap[k]? = w.heap[k]? := fun k hk=>Below.heap_alloc _ _ _ hk;refine ⟨h.os,h.tape,h.output,by have:=h.size;omega,fun k hk hno=>(hold k (A1 hk h.size)).trans (h.frame k hk hno),fun b p hb=>?_,fun e he=>?_,h.mine,h.apart⟩
 ·by_cases e:b=w.heap.size
  ·subst e;rw [Mm.put_same] at hb;cases hb;refine ⟨cs.toArray,t,(0,0),?_,by simp⟩;show (w.heap.push _)[w.heap.size]? = _;simp
  ·rw [Mm.put_other _ _ e] at hb;obtain ⟨c,t',fr,h1,h2⟩:=h.agree b p hb;exact ⟨c,t',fr,(hold b (h.agree.lt hb)).trans h1,h2⟩
 ·exact Ent.kept (h.ents e he) fun b hb=>by
   have:=Ent.lt (h.ents e he) hb;exact ⟨hold b this,Mm.put_other _ _ E8⟩
theorem St.drop {e:Ent} (h:St w0 X M (e::H) w):St w0 X M H w :=
 ⟨h.os,h.tape,h.output,h.size,h.frame,h.agree,fun f hf=>h.ents f (X0 _ hf),fun f hf=>h.mine f (X0 _ hf),(Ax.1 h.apart).2⟩
theorem St.perm {H':List Ent} (h:St w0 X M H w) (hp:H.Perm H'):St w0 X M H' w:=by
 refine ⟨h.os,h.tape,h.output,h.size,h.frame,h.agree,fun f hf=>h.ents f (hp.mem_iff.2 hf),fun f hf=>h.mine f (hp.mem_iff.2 hf),?_⟩;exact hp.pairwise h.apart (fun {a b} hab c hc hc'=>hab c hc' hc)
theorem St.write {b:Nat} {cs cs':List Value} {t:TypeId} (h:St w0 X M (.box b cs t::H) w) (hos:w'.os=w.os) (htp:w'.tape=w.tape) (hout:w'.output=w.output)
 (hb:w'.heap[b]? = some (.cells cs'.toArray t (0,0))) (ho:∀ k,k≠b→w'.heap[k]? = w.heap[k]?) (hsz:w'.heap.size=w.heap.size):St w0 X M (.box b cs' t::H) w':=by
 have hM:M b=none:=(h.ents _ X2).2;have hmine:=h.mine _ X2 b rfl;refine ⟨hos.trans h.os,htp.trans h.tape,hout.trans h.output,by rw [hsz];exact h.size,fun k hk hno=>?_,fun k p hk=>?_,fun e he=>?_,fun e he c hc=>?_,?_⟩
 ·rw [ho k (fun e=>by subst e;rcases hmine with hx | hx;exact hno hx;omega)];exact h.frame k hk hno
 ·have hkb:k≠b:=fun e=>by subst e;rw [hM] at hk;cases hk
  rw [ho k hkb];exact h.agree k p hk
 ·rcases X3.1 he with rfl | he'
  ·exact ⟨hb,hM⟩
  ·refine Ent.kept (h.ents e (X0 _ he')) fun c hc=>⟨ho c fun heq=>?_,rfl⟩;subst heq;exact (Ax.1 h.apart).1 e he' c rfl hc
 ·rcases X3.1 he with rfl | he'
  ·cases hc;exact hmine
  ·exact h.mine e (X0 _ he') c hc
 ·refine .cons (fun e he c hc=>?_) (Ax.1 h.apart).2;cases hc;exact (Ax.1 h.apart).1 e he b rfl
end
abbrev X6 := @Sem.run_bind
section
variable {P:Program} {S:World→Prop} {T:Tm} {dst:Option Tmp} {ty:TypeId} {pos:String} {af:Array Edge} {g:Option (Nat × Bool)}
theorem q6d {x:Operand} (v:Value) (h:evT T x=v):YV P S T ⟨dst,.move x,ty,pos,af,g⟩ v:=by intro w _;simp [execOp,h]
theorem q3i {x:Operand} (v:Value) (h:evT T x=v):YV P S T ⟨dst,.assign x,ty,pos,af,g⟩ v:=by intro w _;simp [execOp,h]
theorem q3j {c x y:Operand} (v:Value) (hc:evT T c= .bool true) (h:evT T x=v):YV P S T ⟨dst,.pick c x y,ty,pos,af,g⟩ v:=by intro w _;simp [execOp,h,hc,asBool]
theorem q3k {c x y:Operand} (v:Value) (hc:evT T c= .bool false) (h:evT T y=v):YV P S T ⟨dst,.pick c x y,ty,pos,af,g⟩ v:=by intro w _;simp [execOp,h,hc,asBool]
theorem zfz {x:Operand} {b:Bool} {t:TypeId} (h:evT T x= .bool b):YV P S T ⟨dst,.unOp .not t x,ty,pos,af,g⟩ (.bool (!b)):=by intro w _;simp [execOp,h,Op.unary]
theorem qaq (op:BinOp) (t:TypeId) (x y:Operand) (k k':IntKind) (a b:Int) (w:World):(eqGuard op t x y (.int k a) (.int k' b)).run P w= .ok () w:=by
 unfold eqGuard;cases op<;>simp
theorem qln (op:BinOp) (t:TypeId) (x y:Operand) (a b:Bool) (w:World):(eqGuard op t x y (.bool a) (.bool b)).run P w= .ok () w:=by
 unfold eqGuard;cases op<;>simp
theorem qik (op:BinOp) (t:TypeId) (x y:Operand) (a b:ByteArray) (w:World):(eqGuard op t x y (.string a) (.string b)).run P w= .ok () w:=by
 unfold eqGuard;cases op<;>simp
section
variable {x y:Operand} {k:IntKind} {a b:Int} {t u:TypeId}
theorem zf0 (hx:evT T x= .int k a) (hy:evT T y= .int k b):YV P S T ⟨dst,.binOp .add t x y u,ty,pos,af,g⟩ (.int k (k.wrap (a+b))):=by
 intro w _;simp [execOp,hx,hy,binOp,Op.intArith,qaq]
theorem zf1 (hx:evT T x= .int k a) (hy:evT T y= .int k b):YV P S T ⟨dst,.binOp .sub t x y u,ty,pos,af,g⟩ (.int k (k.wrap (a-b))):=by
 intro w _;simp [execOp,hx,hy,binOp,Op.intArith,qaq]
theorem q1j (hx:evT T x= .int k a) (hy:evT T y= .int k b):YV P S T ⟨dst,.binOp .mul t x y u,ty,pos,af,g⟩ (.int k (k.wrap (a*b))):=by
 intro w _;simp [execOp,hx,hy,binOp,Op.intArith,qaq]
theorem zc1 (hx:evT T x= .int k a) (hy:evT T y= .int k b) (h0:b≠0):YV P S T ⟨dst,.binOp .quo t x y u,ty,pos,af,g⟩ (.int k (k.wrap (a.tdiv b))):=by
 intro w _;simp [execOp,hx,hy,binOp,Op.intDiv,qaq,h0]
theorem zc2 (hx:evT T x= .int k a) (hy:evT T y= .int k b) (h0:b≠0):YV P S T ⟨dst,.binOp .rem t x y u,ty,pos,af,g⟩ (.int k (a.tmod b)):=by
 intro w _;simp [execOp,hx,hy,binOp,Op.intDiv,qaq,h0]
theorem zc3 {k':IntKind} (hx:evT T x= .int k a) (hy:evT T y= .int k' b) (h0:0≤b):YV P S T ⟨dst,.binOp .shl t x y u,ty,pos,af,g⟩ (.int k (k.wrap (a*2 ^ (min b.toNat k.bits)))):=by
 intro w _;have h1:¬ b<0:=by omega
 simp [execOp,hx,hy,binOp,Op.shift,qaq,h1]
theorem zc4 {k':IntKind} (hx:evT T x= .int k a) (hy:evT T y= .int k' b) (h0:0≤b):YV P S T ⟨dst,.binOp .shr t x y u,ty,pos,af,g⟩ (.int k (a.fdiv (2 ^ (min b.toNat k.bits)))):=by
 intro w _;have h1:¬ b<0:=by omega
 simp [execOp,hx,hy,binOp,Op.shift,qaq,h1]
def orI (k:IntKind) (a b:Int):Int:=k.wrap ((BitVec.ofInt k.bits a ||| BitVec.ofInt k.bits b).toNat:Int)
theorem Y_or (hx:evT T x= .int k a) (hy:evT T y= .int k b):YV P S T ⟨dst,.binOp .or t x y u,ty,pos,af,g⟩ (.int k (orI k a b)):=by
 intro w _;simp [execOp,hx,hy,binOp,Op.intBits,qaq,orI]
theorem zf2 (hx:evT T x= .int k a) (hy:evT T y= .int k b):YV P S T ⟨dst,.binOp .lss t x y u,ty,pos,af,g⟩ (.bool (decide (a<b))):=by
 intro w _;simp [execOp,hx,hy,binOp,Op.intCmp,qaq]
theorem q6e (hx:evT T x= .int k a) (hy:evT T y= .int k b):YV P S T ⟨dst,.binOp .leq t x y u,ty,pos,af,g⟩ (.bool (decide (a≤b))):=by
 intro w _;simp [execOp,hx,hy,binOp,Op.intCmp,qaq]
theorem zf3 (hx:evT T x= .int k a) (hy:evT T y= .int k b):YV P S T ⟨dst,.binOp .gtr t x y u,ty,pos,af,g⟩ (.bool (decide (a>b))):=by
 intro w _;simp [execOp,hx,hy,binOp,Op.intCmp,qaq]
theorem zf4 (hx:evT T x= .int k a) (hy:evT T y= .int k b):YV P S T ⟨dst,.binOp .geq t x y u,ty,pos,af,g⟩ (.bool (decide (a≥b))):=by
 intro w _;simp [execOp,hx,hy,binOp,Op.intCmp,qaq]
theorem zf5 (hx:evT T x= .int k a) (hy:evT T y= .int k b):YV P S T ⟨dst,.binOp .eql t x y u,ty,pos,af,g⟩ (.bool (a==b)):=by
 intro w _;simp [execOp,hx,hy,binOp,Op.intCmp,qaq]
theorem zf6 (hx:evT T x= .int k a) (hy:evT T y= .int k b):YV P S T ⟨dst,.binOp .neq t x y u,ty,pos,af,g⟩ (.bool (a != b)):=by
 intro w _;simp [execOp,hx,hy,binOp,Op.intCmp,qaq]
end
section
variable {x y:Operand} {a b:ByteArray} {t u:TypeId}
theorem zf7 (hx:evT T x= .string a) (hy:evT T y= .string b) (h:a.size+b.size≤140737488351232):YV P S T ⟨dst,.binOp .add t x y u,ty,pos,af,g⟩ (.string (a++b)):=by
 intro w _;have h2:IntKind.i64.max=9223372036854775807:=by decide
 have h1:¬ ((a.size+b.size:Nat):Int)>IntKind.i64.max:=by rw [h2];omega
 simp only [execOp,hx,hy,binOp,Op.stringOp,X6,qik,if_neg h1];rfl
theorem zc5 (hx:evT T x= .string a) (hy:evT T y= .string b):YV P S T ⟨dst,.binOp .eql t x y u,ty,pos,af,g⟩ (.bool (a.toList==b.toList)):=by
 intro w _;simp [execOp,hx,hy,binOp,Op.stringOp,qik]
theorem zf8 (hx:evT T x= .string a) (hy:evT T y= .string b):YV P S T ⟨dst,.binOp .neq t x y u,ty,pos,af,g⟩ (.bool (!(a.toList==b.toList))):=by
 intro w _;simp [execOp,hx,hy,binOp,Op.stringOp,qik]
end
section
variable {x y:Operand} {a b:Bool} {t u:TypeId}
theorem zc6 (hx:evT T x= .bool a) (hy:evT T y= .bool b) (ht:P.underlying t=some .bool):YV P S T ⟨dst,.binOp .eql t x y u,ty,pos,af,g⟩ (.bool (a==b)):=by
 intro w _;simp [execOp,hx,hy,binOp,qln,run_equal_bool w t a b ht]
theorem q84 (hx:evT T x= .bool a) (hy:evT T y= .bool b) (ht:P.underlying t=some .bool):YV P S T ⟨dst,.binOp .neq t x y u,ty,pos,af,g⟩ (.bool (!(a==b))):=by
 intro w _;simp [execOp,hx,hy,binOp,qln,run_equal_bool w t a b ht]
end
theorem zc7 {s d:TypeId} {x:Operand} {k k':IntKind} {a:Int} (hs:∃ t,P.underlying s=some t) (hd:P.underlying d=some (.int k)) (hx:evT T x= .int k' a):YV P S T ⟨dst,.convert s d x,ty,pos,af,g⟩ (.int k (k.wrap a)):=by
 intro w _;obtain ⟨t,hs⟩:=hs;cases t<;>simp [execOp,hx,convert,run_underlying hs w,run_underlying hd w,Conv.intToInt]
theorem zf9 {x:Operand} {a:Addr} (hx:evT T x= .pointer (some a)):YV P S T ⟨dst,.nilCheck x,ty,pos,af,g⟩ (.pointer (some a)):=by
 intro w _;simp [execOp,hx]
theorem q6f {x:Operand} {i:Nat} {vs:Array Value} {v:Value} (hx:evT T x= .tuple vs) (hv:vs[i]? = some v):YV P S T ⟨dst,.extract x i,ty,pos,af,g⟩ v:=by
 intro w _;simp [execOp,hx,Instr.extract,hv]
theorem zc8 {x:Operand} {t e:TypeId} {a:Option Addr} {n c:Nat} (ht:P.underlying t=some (.slice e)) (hx:evT T x= .slice a n c):YV P S T ⟨dst,.call ⟨.builtin .len,#[x],#[t]⟩,ty,pos,af,g⟩ (.int .i64 n):=by
 intro w _;simp [execOp,resolve,invoke,builtin,hx,Builtin.len_,run_underlying ht w,goInt]
theorem zc9 {x:Operand} {t:TypeId} {s:ByteArray} (ht:P.underlying t=some .string) (hx:evT T x= .string s):YV P S T ⟨dst,.call ⟨.builtin .len,#[x],#[t]⟩,ty,pos,af,g⟩ (.int .i64 s.size):=by
 intro w _;simp [execOp,resolve,invoke,builtin,hx,Builtin.len_,run_underlying ht w,goInt]
theorem q85 {x y:Operand} {t t':TypeId} {k k':IntKind} {a b:Int} (hx:evT T x= .int k a) (hy:evT T y= .int k' b):YV P S T ⟨dst,.call ⟨.builtin .min,#[x,y],#[t,t']⟩,ty,pos,af,g⟩ (.int k (min a b)):=by
 intro w _;have:(if b<a then b else a)=min a b:=by omega
 simp [execOp,resolve,invoke,builtin,hx,hy,Builtin.min_,Builtin.min2,List.foldlM,this]
theorem zga {x y:Operand} {t t':TypeId} {k k':IntKind} {a b:Int} (hx:evT T x= .int k a) (hy:evT T y= .int k' b):YV P S T ⟨dst,.call ⟨.builtin .max,#[x,y],#[t,t']⟩,ty,pos,af,g⟩ (.int k (max a b)):=by
 intro w _;have:(if a<b then b else a)=max a b:=by omega
 simp [execOp,resolve,invoke,builtin,hx,hy,Builtin.max_,Builtin.max2,List.foldlM,this]
end
abbrev Ac := @Option.map_some
abbrev Bt := @Array.getElem?_toList
abbrev Dq := @Nat.lt_or_ge
abbrev E2 := @Nat.mul_one
abbrev Bi := @Option.getD_none
abbrev Af := @Nat.mul_le_mul_right
abbrev Aq := @Nat.add_mul
abbrev Du := @Option.some.inj
def FA (P:Program) (s:TypeId) (f o:Nat):Prop:=∃ fields fd k,P.underlying s=some (.struct fields)∧fields[f]? = some fd∧(P.info? fd.type).map (·.size)=some (k+1)∧fd.offset=o
def IA (P:Program) (t:TypeId) (n k:Nat):Prop:=∃ e,P.underlying t=some (.array n e)∧(P.info? e).map (·.size)=some k
def IL (P:Program) (t:TypeId) (k:Nat):Prop:=∃ e,P.underlying t=some (.slice e)∧(P.info? e).map (·.size)=some k
def TS (P:Program) (t:TypeId):Prop:=∃ d,P.underlying t=some d∧d.isRow=false
def TA (P:Program) (t:TypeId) (n:Nat):Prop:=∃ d,P.underlying t=some d∧d.isRow=true∧(P.info? t).map (·.size)=some n
def BV (S:World→Prop) (b:Nat) (cs:List Value):Prop:=∀ w,S w→∃ arr t fr,w.heap[b]? = some (.cells arr t fr)∧cs <+: arr.toList
theorem St.bvM {w0 w:World} {X:Nat→Prop} {M:Mm} {H:List Ent} (h:St w0 X M H w) {b:Nat} {p:List Value} (hb:M b=some p):BV (· = w) b p:=fun _ e=>e ▸ h.agree b p hb
theorem St.bvB {w0 w:World} {X:Nat→Prop} {M:Mm} {H:List Ent} (h:St w0 X M H w) (j:Nat) {b:Nat} {cs:List Value} {t:TypeId} (hj:H[j]? = some (.box b cs t)):BV (· = w) b cs:=fun _ e=>by
 subst e;exact ⟨cs.toArray,t,(0,0),(h.ents _ (X7 hj)).1,by simp⟩
theorem qaw {P:Program} {t:TypeId} {n:Nat} (h:(P.info? t).map (·.size)=some n) (w:World):(sizeOf t).run P w= .ok n w:=by
 cases hi:P.info? t with
 | none=>rw [hi] at h;cases h
 | some i =>
  rw [hi] at h;simp only [Ac,Option.some.injEq] at h;subst h;simp [sizeOf,typeInfo,hi]
section
variable {P:Program} {S:World→Prop} {T:Tm} {dst:Option Tmp} {ty:TypeId} {pos:String} {af:Array Edge} {g:Option (Nat × Bool)}
theorem Y_fa {s:TypeId} {f o b off:Nat} {x:Operand} (hf:FA P s f o) (hx:evT T x= .pointer (some ⟨b,off,none⟩)):YV P S T ⟨dst,.fieldAddr s x f,ty,pos,af,g⟩ (.pointer (some ⟨b,off+o,none⟩)):=by
 intro w _;obtain ⟨fields,fd,k,h1,h2,h3,rfl⟩:=hf;simp [execOp,hx,Instr.fieldAt,run_underlying h1 w,h2,Instr.sureAddr,fieldPlace,qaw h3,Addr.add_mid]
theorem zgb {t:TypeId} {n k b off:Nat} {x y:Operand} {kk:IntKind} {j:Int} (ht:IA P t n k) (hx:evT T x= .pointer (some ⟨b,off,none⟩)) (hy:evT T y= .int kk j) (h0:0≤j) (h1:j<n) :
 YV P S T ⟨dst,.indexAddr t x y,ty,pos,af,g⟩ (.pointer (some ⟨b,off+j.toNat*k,none⟩)):=by
 intro w _;obtain ⟨e,h2,h3⟩:=ht;simp [execOp,hx,hy,Instr.indexAt,asIntOf,run_underlying h2 w,Instr.sureAddr,h0,h1,qaw h3,Addr.add_mid]
theorem zgc {t:TypeId} {k b off len cap:Nat} {x y:Operand} {kk:IntKind} {j:Int} {v:Value} (ht:IL P t k) (hx:evT T x=v) (hv:v= .slice (some ⟨b,off,none⟩) len cap) (hy:evT T y= .int kk j) (h0:0≤j) (h1:j<len) :
 YV P S T ⟨dst,.indexAddr t x y,ty,pos,af,g⟩ (.pointer (some ⟨b,off+j.toNat*k,none⟩)):=by
 intro w _;subst hv;obtain ⟨e,h2,h3⟩:=ht;simp [execOp,hx,hy,Instr.indexAt,asIntOf,run_underlying h2 w,h0,h1,qaw h3,Addr.add_mid]
theorem qtj {cs:List Value} {o:Nat} {v:Value} (h:sl cs o 1=[v]):cs[o]? = some v:=by
 have:=qg1 cs o 1 0 E8;rw [h] at this;simpa using this.symm
theorem zgd {t:TypeId} {b off:Nat} {x:Operand} {cs:List Value} (v:Value) (ht:TS P t) (hx:evT T x= .pointer (some ⟨b,off,none⟩)) (hb:BV S b cs) (hc:sl cs off 1=[v]):YV P S T ⟨dst,.load t x,ty,pos,af,g⟩ v:=by
 intro w hS;obtain ⟨d,h1,h2⟩:=ht;obtain ⟨arr,t',fr,h3,h4⟩:=hb w hS;have hcell:w.cell? ⟨b,off,none⟩=some v:=by
  have:=qtj hc;obtain ⟨r,hr⟩:=h4;simp only [World.cell?,h3];rw [← Bt,← hr,An (Xz.1 this).1];simpa using this
 have hagg:(isAgg t).run P w= .ok false w:=by
  unfold isAgg;rw [X6,run_underlying h1 w];cases d<;>simp_all [TypeDesc.isRow]
 simp [execOp,hx,Instr.loadAt,Instr.sureAddr,loadVar,hagg,load,Sem.run,hcell]
theorem qv6 {w:World} {b off n:Nat} {cs:List Value} {arr:Array Value} {t:TypeId} {fr:Nat × Nat} (h3:w.heap[b]? = some (.cells arr t fr)) (h4:cs <+: arr.toList):w.rangeAt b off (sl cs off n):=by
 intro j v hj;have hjn:j<n:=by
  rcases Dq j n with h | h
  ·exact h
  ·rw [qby _ _ _ _ h] at hj;cases hj
 rw [qg1 _ _ _ _ hjn] at hj;obtain ⟨r,hr⟩:=h4;simp only [World.cell?,h3];rw [← Bt,← hr,An (Xz.1 hj).1];simpa using hj
theorem zge {t:TypeId} {b off n:Nat} {x:Operand} {cs:List Value} (ht:TA P t n) (hx:evT T x= .pointer (some ⟨b,off,none⟩)) (hb:BV S b cs) (hl:(sl cs off n).length=n):YV P S T ⟨dst,.load t x,ty,pos,af,g⟩ (.agg (sl cs off n).toArray):=by
 intro w hS;obtain ⟨d,h1,h2,h5⟩:=ht;obtain ⟨arr,t',fr,h3,h4⟩:=hb w hS;have:=run_loadAt_mid (P:=P) w b off t (sl cs off n) d (qv6 h3 h4) h1 h2 (by rw [hl];exact h5);simp [execOp,hx,this]
theorem qju {e:TypeId} (he:TS P e) (cs:Array Value) (k:Nat) (v:Value) (hv:cs[k]? = some v) (w:World):(part e cs k).run P w= .ok v w:=by
 obtain ⟨d,h1,h2⟩:=he;have hagg:(isAgg e).run P w= .ok false w:=by
  unfold isAgg;rw [X6,run_underlying h1 w];cases d<;>simp_all [TypeDesc.isRow]
 simp [part,hagg,hv]
theorem q6g {e:TypeId} {n:Nat} (he:TA P e n) (cs:List Value) (k:Nat) (w:World):(part e cs.toArray k).run P w= .ok (.agg (sl cs k n).toArray) w:=by
 obtain ⟨d,h1,h2,h3⟩:=he;have hagg:(isAgg e).run P w= .ok true w:=by
  unfold isAgg;rw [X6,run_underlying h1 w];cases d<;>simp_all [TypeDesc.isRow]
 simp [part,hagg,qaw h3,sl]
def IV1 (P:Program) (t:TypeId) (n:Nat):Prop:=∃ e,P.underlying t=some (.array n e)∧(P.info? e).map (·.size)=some 1∧TS P e
def IVn (P:Program) (t:TypeId) (n k:Nat):Prop:=∃ e,P.underlying t=some (.array n e)∧(P.info? e).map (·.size)=some k∧TA P e k
theorem zaf {t:TypeId} {n:Nat} {x y:Operand} {kk:IntKind} {j:Int} {cs:List Value} (v:Value) (ht:IV1 P t n) (hx:evT T x= .agg cs.toArray) (hy:evT T y= .int kk j) (h0:0≤j) (h1:j<n) (hc:sl cs (j.toNat*1) 1=[v]) :
 YV P S T ⟨dst,.index t x y,ty,pos,af,g⟩ v:=by
 intro w _;obtain ⟨e,h2,h3,h4⟩:=ht;have hc':=qtj hc;have hp:=qju h4 cs.toArray (j.toNat*1) v (by simpa using hc') w;simp only [E2] at hp;simp [execOp,hx,hy,Instr.index,asIntOf,run_underlying h2 w,h0,h1,qaw h3,hp]
theorem q3l {t:TypeId} {n k:Nat} {x y:Operand} {kk:IntKind} {j:Int} {cs:List Value} (ht:IVn P t n k) (hx:evT T x= .agg cs.toArray) (hy:evT T y= .int kk j) (h0:0≤j) (h1:j<n) :
 YV P S T ⟨dst,.index t x y,ty,pos,af,g⟩ (.agg (sl cs (j.toNat*k) k).toArray):=by
 intro w _;obtain ⟨e,h2,h3,h4⟩:=ht;simp [execOp,hx,hy,Instr.index,asIntOf,run_underlying h2 w,h0,h1,qaw h3,q6g h4]
def qjv (s:ByteArray) (j:Int):Option Int:=if 0≤j then (s[j.toNat]?).map (fun b=>(b.toNat:Int)) else none
theorem zgf {t:TypeId} {x y:Operand} {kk:IntKind} {j c:Int} {s:ByteArray} (ht:P.underlying t=some .string) (hx:evT T x= .string s) (hy:evT T y= .int kk j) (hj:qjv s j=some c):YV P S T ⟨dst,.index t x y,ty,pos,af,g⟩ (.int .u8 c):=by
 intro w _;unfold qjv at hj;split at hj
 ·rename_i h0;cases hb:s[j.toNat]? with
  | none=>rw [hb] at hj;cases hj
  | some b =>
   rw [hb] at hj;simp only [Ac,Option.some.injEq] at hj;subst hj;simp [execOp,hx,hy,Instr.index,asIntOf,run_underlying ht w,h0,hb]
 ·cases hj
def qg2 (n:Nat) (lo hi:Option Int):Option (Nat × Nat) :=
 let h:=hi.getD n
 let l:=lo.getD 0
 if 0≤l∧l≤h∧h≤n then some (l.toNat,h.toNat) else none
def evI (T:Tm):Option Operand→Option Int→Prop
 | none,none=>True
 | some x,some i=>evT T x= .int .i64 i
 | _,_=>False
theorem qil {b:Bool} {len cap:Nat} {lo hi:Option Operand} {l h:Option Int} {p q:Nat} (hl:evI T lo l) (hh:evI T hi h) (hc:qg2 len l h=some (p,q)) (hcap:len≤cap) (w:World) :
 (Instr.sliceBounds b len cap (lo.map (evT T)) (hi.map (evT T)) none).run P w= .ok (p,q,cap) w:=by
 unfold qg2 at hc;simp only at hc;split at hc
 ·rename_i hk;simp only [Option.some.injEq,Prod.mk.injEq] at hc;obtain ⟨rfl,rfl⟩:=hc;cases lo<;>cases l<;>simp only [evI] at hl<;>cases hi<;>cases h<;>simp only [evI] at hh<;>simp only [Ae,Bi] at hk ⊢
  ·simp [Instr.sliceBounds]
  ·have h1:0≤(‹Int› : Int)∧(‹Int› : Int)≤(cap:Int):=by omega
   simp [Instr.sliceBounds,hh,Instr.sliceBound,asIntOf,h1]
  ·have h1:0≤(‹Int› : Int)∧(‹Int› : Int)≤(len:Int):=by omega
   simp [Instr.sliceBounds,hl,Instr.sliceBound,asIntOf,h1]
  ·rename_i x1 i1 x2 i2;have h1:0≤i2∧i2≤(cap:Int):=by omega
   have h2:0≤i1∧i1≤((i2.toNat:Nat):Int):=by omega
   simp [Instr.sliceBounds,hl,hh,Instr.sliceBound,asIntOf,h1,h2];omega
 ·cases hc
theorem zda {t:TypeId} {x:Operand} {lo hi:Option Operand} {l h:Option Int} {s:ByteArray} {p q:Nat} (ht:P.underlying t=some .string) (hx:evT T x= .string s) (hl:evI T lo l) (hh:evI T hi h) (hc:qg2 s.size l h=some (p,q)) :
 YV P S T ⟨dst,.slice t x lo hi none,ty,pos,af,g⟩ (.string (s.extract p q)):=by
 intro w _;have hb:=qil (P:=P) (b:=false) (cap:=s.size) hl hh hc (Aa _) w;simp [execOp,hx,Instr.sliceAt,Instr.slice,run_underlying ht w,hb]
def qoc (v:Value) (k p q:Nat):Value :=
 match v with
 | .slice a _ cap => .slice (if cap=p then a else a.map (·.add (p*k))) (q-p) (cap-p)
 | v=>v
theorem qxs {α : Type} [Rep α] {M:Mm} {v:Value} {l:List α} (hr:repL M v l) {lo hi:Option Int} {p q:Nat} (hc:qg2 l.length lo hi=some (p,q)):repL M (qoc v (Rep.k α) p q) ((l.take q).drop p):=by
 obtain ⟨a,cap,rfl,h1,h2,h3,h4⟩:=hr;unfold qg2 at hc;simp only at hc;split at hc
 ·rename_i hk;simp only [Option.some.injEq,Prod.mk.injEq] at hc;obtain ⟨rfl,rfl⟩:=hc;generalize lo.getD 0=lo at *;generalize hi.getD (l.length:Int)=hi at *;have hlen:((l.take hi.toNat).drop lo.toNat).length=hi.toNat-lo.toNat:=by simp;omega
  refine ⟨if cap=lo.toNat then a else a.map (·.add (lo.toNat*Rep.k α)),cap-lo.toNat,?_,?_,?_,?_,?_⟩
  ·simp only [qoc,hlen]
  ·rw [hlen];omega
  ·intro hn;split at hn
   ·omega
   ·cases a with
    | none=>have:=h2 rfl;omega
    | some a=>cases hn
  ·rw [hlen];refine Ar (Af _ ?_) h3;omega
  ·intro i x hx;rw [De,Bd] at hx;split at hx
   ·rename_i hlt;obtain ⟨b,off,m,rfl,hb,hle,hrep⟩:=h4 _ x hx;have hne:¬ cap=lo.toNat:=by omega
    refine ⟨b,off+lo.toNat*Rep.k α,m,by rw [if_neg hne];simp [Addr.add_mid],hb,?_,?_⟩
    ·rw [Aq] at hle;omega
    ·rw [Aq,← Dk] at hrep;exact hrep
   ·cases hx
 ·cases hc
theorem qv7 {t:TypeId} {k n:Nat} {x:Operand} {lo hi:Option Operand} {l h:Option Int} {v:Value} {p q cap:Nat} {a:Option Addr} (ht:IL P t k) (hx:evT T x=v) (hv:v= .slice a n cap) (hl:evI T lo l) (hh:evI T hi h) (hc:qg2 n l h=some (p,q)) (hn:n≤cap) :
 YV P S T ⟨dst,.slice t x lo hi none,ty,pos,af,g⟩ (qoc v k p q):=by
 intro w _;subst hv;obtain ⟨e,h1,h2⟩:=ht;have hb:=qil (P:=P) (b:=true) (cap:=cap) hl hh hc hn w;simp [execOp,hx,Instr.sliceAt,Instr.slice,run_underlying h1 w,hb,qaw h2,qoc]
end
def idx {α : Type} (l:List α) (j:Int):Option α := if 0≤j then l[j.toNat]? else none
theorem q86 {α : Type} {l:List α} {j:Int} {x : α} (h:idx l j=some x):0≤j∧j<l.length∧l[j.toNat]? = some x:=by
 unfold idx at h;split at h
 ·have:=(Xz.1 h).1;exact ⟨by omega,by omega,h⟩
 ·cases h
theorem zaz {α : Type} [Rep α] {M:Mm} {v:Value} {l:List α} (h:repL M v l) {j:Int} {x : α} (hj:idx l j=some x) :
 ∃ b off cap p,v= .slice (some ⟨b,off,none⟩) l.length cap∧0≤j∧j<l.length∧M b=some p∧rep M (sl p (off+j.toNat*Rep.k α) (Rep.k α)) x:=by
 obtain ⟨h0,h1,hx⟩:=q86 hj;obtain ⟨a,cap,rfl,_,_,_,h4⟩:=h;obtain ⟨b,off,p,rfl,hb,_,hr⟩:=h4 _ x hx;exact ⟨b,off,cap,p,rfl,h0,h1,hb,hr⟩
theorem qv8 {α : Type} [Rep α] {M:Mm} {v:Value} {l:List α} (h:repL M v l):∃ a cap,v= .slice a l.length cap∧l.length≤cap:=by
 obtain ⟨a,cap,rfl,h1,_⟩:=h;exact ⟨a,cap,rfl,h1⟩
def qan {α : Type} {n:Nat} (l:Vector α n) (j:Int):Option α := if 0≤j then l[j.toNat]? else none
theorem qy9 {α : Type} {n:Nat} {l:Vector α n} {j:Int} {x : α} (h:qan l j=some x):0≤j∧j<n∧∃ h:j.toNat<n,l[j.toNat]=x:=by
 unfold qan at h;split at h
 ·have:=Vector.getElem?_eq_some_iff.1 h;obtain ⟨h1,h2⟩:=this;exact ⟨by omega,by omega,h1,h2⟩
 ·cases h
theorem q6h {α : Type} [Rep α] {n:Nat} {M:Mm} {cs:List Value} {l:Vector α n} (h:rep M cs l) {j:Int} {x : α} (hj:qan l j=some x):0≤j∧j<n∧rep M (sl cs (j.toNat*Rep.k α) (Rep.k α)) x:=by
 obtain ⟨h0,h1,h2,rfl⟩:=qy9 hj;exact ⟨h0,h1,h.2.2 _ h2⟩
def qc1 {α : Type} {n:Nat} (l:Vector α n) (j:Int) (x : α):Option (Vector α n):=if 0≤j∧j<n then some (l.setIfInBounds j.toNat x) else none
theorem qza {α : Type} {n:Nat} {l l':Vector α n} {j:Int} {x : α} (h:qc1 l j x=some l'):0≤j∧j<n∧l'=l.setIfInBounds j.toNat x:=by
 unfold qc1 at h;split at h
 ·rename_i hk;exact ⟨hk.1,hk.2,(Du h).symm⟩
 ·cases h
abbrev A8 := @List.flatMap_cons
abbrev Ew := @Nat.zero_mul
abbrev B4 := @Nat.zero_add
abbrev Dx := @List.getElem?_cons_succ
abbrev Ec := @Nat.succ_mul
abbrev X5 := @List.length_append
abbrev X9 := @List.length_cons
abbrev B2 := @Nat.le_mul_of_pos_right
structure GOp where
 kind:Int
 key:Int
 n:Int
deriving DecidableEq,Inhabited
def qkp (o:GOp):List Value:=[.int .i64 o.kind,.int .i64 o.key,.int .i64 o.n]
def RRow (S:Nat→Prop) (w:World) (v:Value) (size bytes n:Nat) (cells:List Value):Prop :=
 ∃ a cap,v= .slice a n cap∧n≤cap∧(a=none→cap=0)∧cells.length=n*size∧n*bytes≤140737488351232 ∧
  ∀ i u,cells[i]? = some u→∃ b off,a=some ⟨b,off,none⟩∧S b∧w.cell? ⟨b,off+i,none⟩=some u
theorem qxt {w:World} {a:Addr} {v:Value} (h:w.cell? a=some v):a.block<w.heap.size:=block_lt_of_cell h
theorem RRow.mono {S S':Nat→Prop} {w w':World} {v:Value} {size bytes n:Nat} {cells:List Value} (h:RRow S w v size bytes n cells)
 (hs:∀ b,S b→b<w.heap.size→S' b∧w'.heap[b]? = w.heap[b]?):RRow S' w' v size bytes n cells:=by
 obtain ⟨a,cap,rfl,h1,h2,h3,h4,h5⟩:=h;refine ⟨a,cap,rfl,h1,h2,h3,h4,fun i u hu=>?_⟩;obtain ⟨b,off,ha,hb,hc⟩:=h5 i u hu;have hl:=qxt hc;exact ⟨b,off,ha,(hs b hb hl).1,by rw [← hc];exact World.cell?_of_block (hs b hb hl).2⟩
theorem RRow.later {S:Nat→Prop} {w w':World} {v:Value} {size bytes n:Nat} {cells:List Value} (h:RRow S w v size bytes n cells)
 (hb:Below w.heap.size w w'):RRow S w' v size bytes n cells :=
 h.mono fun b hs hl=>⟨hs,hb.block b hl⟩
theorem RRow.any {S:Nat→Prop} {w:World} {v:Value} {size bytes n:Nat} {cells:List Value} (h:RRow S w v size bytes n cells):RRow (fun _=>True) w v size bytes n cells :=
 h.mono fun _ _ _=>⟨trivial,rfl⟩
def RInts (S:Nat→Prop) (w:World) (v:Value) (l:List Int):Prop:=RRow S w v 1 8 l.length (l.map (Value.int .i64))
def ROps (S:Nat→Prop) (w:World) (v:Value) (l:List GOp):Prop:=RRow S w v 3 24 l.length (l.flatMap qkp)
theorem RInts.later {S:Nat→Prop} {w w':World} {v:Value} {l:List Int} (h:RInts S w v l) (hb:Below w.heap.size w w'):RInts S w' v l:=RRow.later h hb
theorem ROps.later {S:Nat→Prop} {w w':World} {v:Value} {l:List GOp} (h:ROps S w v l) (hb:Below w.heap.size w w'):ROps S w' v l:=RRow.later h hb
theorem RInts.at {S:Nat→Prop} {w:World} {a:Option Addr} {n cap:Nat} {l:List Int} (h:RInts S w (.slice a n cap) l) {k:Nat} {x:Int} (hx:l[k]? = some x) :
 ∃ b off,a=some ⟨b,off,none⟩∧S b∧b<w.heap.size∧w.cell? ⟨b,off+k,none⟩=some (.int .i64 x):=by
 obtain ⟨a',cap',he,h1,h2,h3,h4,h5⟩:=h;cases he;obtain ⟨b,off,ha,hb,hc⟩:=h5 k (.int .i64 x) (by simp [hx]);exact ⟨b,off,ha,hb,qxt hc,hc⟩
theorem qnh {α : Type} {f : α → List Value} {m:Nat} (hf:∀ a,(f a).length=m):∀ (l:List α) (k:Nat) (a : α) (j:Nat),l[k]? = some a→j<m →
 (l.flatMap f)[k*m+j]? = (f a)[j]? := by
 intro l
 induction l with
 | nil=>intro k a j h;simp at h
 | cons x t ih =>
  intro k a j h hj;cases k with
  | zero =>
   simp at h;subst h;simp only [A8,Ew,B4];rw [An (by rw [hf];exact hj)]
  | succ k =>
   simp only [Dx] at h;simp only [A8];rw [Bb (by rw [hf];simp only [Ec];omega)];rw [hf,← ih k a j h hj];congr 1;simp only [Ec];omega
theorem q1k {α : Type} {f : α → List Value} {m:Nat} (hf:∀ a,(f a).length=m) (l:List α):(l.flatMap f).length=l.length*m:=by
 induction l with
 | nil=>simp
 | cons x t ih=>simp only [A8,X5,hf,ih,X9,Ec];omega
theorem ROps.at {S:Nat→Prop} {w:World} {a:Option Addr} {n cap:Nat} {l:List GOp} (h:ROps S w (.slice a n cap) l) {k:Nat} {o:GOp} (hx:l[k]? = some o) :
 ∃ b off,a=some ⟨b,off,none⟩∧S b∧b<w.heap.size∧w.cell? ⟨b,off+k*3,none⟩=some (.int .i64 o.kind) ∧
  w.cell? ⟨b,off+k*3+1,none⟩=some (.int .i64 o.key)∧w.cell? ⟨b,off+k*3+2,none⟩=some (.int .i64 o.n):=by
 obtain ⟨a',cap',he,h1,h2,h3,h4,h5⟩:=h;cases he;have hf:∀ a,(qkp a).length=3:=fun _=>rfl;obtain ⟨b,off,ha,hb,hc⟩:=h5 (k*3+0) (.int .i64 o.kind) (by rw [qnh hf l k o 0 hx E8];rfl);obtain ⟨b1,off1,ha1,hb1,hc1⟩:=h5 (k*3+1) (.int .i64 o.key) (by rw [qnh hf l k o 1 hx E8];rfl);obtain ⟨b2,off2,ha2,hb2,hc2⟩:=h5 (k*3+2) (.int .i64 o.n) (by rw [qnh hf l k o 2 hx E8];rfl);rw [ha] at ha1 ha2;cases ha1;cases ha2;exact ⟨b,off,ha,hb,qxt hc,hc,hc1,hc2⟩
theorem RInts.shape {S:Nat→Prop} {w:World} {v:Value} {l:List Int} (h:RInts S w v l):∃ a cap,v= .slice a l.length cap∧l.length≤17592186043904:=by
 obtain ⟨a,cap,he,h1,h2,h3,h4,h5⟩:=h;exact ⟨a,cap,he,by omega⟩
theorem ROps.shape {S:Nat→Prop} {w:World} {v:Value} {l:List GOp} (h:ROps S w v l):∃ a cap,v= .slice a l.length cap∧l.length≤17592186043904:=by
 obtain ⟨a,cap,he,h1,h2,h3,h4,h5⟩:=h;exact ⟨a,cap,he,by omega⟩
theorem qdp {α : Type} {l:List α} {k:Nat} (h:k<l.length):∃ x,l[k]? = some x:=⟨l[k],by simp⟩
theorem ql1 {α : Type} {l:List α} {k:Nat} {x : α} (h:l[k]? = some x):l.take (k+1)=l.take k++[x]:=by
 rw [List.take_add_one,h];rfl
theorem RRow.of_own {base:Nat} {e:TypeId} {size bytes n:Nat} {v:Value} {xs:List Value} {w:World} (h:w.ownsRow base e size v n xs) (hb:n*bytes≤140737488351232) :
 RRow (fun b=>base≤b) w v size bytes n xs:=by
 obtain ⟨hl,h | ⟨g,cap,cur,rfl,hg,hh,hn,hc,hs,ht⟩⟩:=h
 ·obtain ⟨rfl,rfl⟩:=h;refine ⟨none,0,rfl,Aa _,fun _=>rfl,hl,hb,fun i u hu=>?_⟩;have:xs=[]:=by simpa using hl
  subst this;simp at hu
 ·refine ⟨some ⟨g,0,none⟩,cap,rfl,hn,fun h=>by simp at h,hl,hb,fun i u hu=>⟨g,0,rfl,hg,?_⟩⟩;subst ht;simp [World.cell?,hh];rw [Bd] at hu;split at hu
  ·simpa using hu
  ·simp at hu
theorem qim {P:Program} {w:World} {ops:Array Oper} {rest:List Oper} {o:Oper} {a:Act} {Q:Exit→Act→World→Prop} (hgd:Region.wanted o (yielded ops a.tmps)=true) (s x:Operand) (t:TypeId)
 (ho:o.op= .call { callee:= .builtin .append,args := #[s,x],argTypes := #[t,t] })
 (base:Nat) (e:TypeId) (z:Value) (size bytes:Nat) (ht:P.underlying t=some (.slice e)) (hi:(P.info? e).map (fun i=>(i.zero,i.size,i.bytes))=some (some z,size,bytes)) (hzs:z.cells.size=size) (hsz:0<size)
 (v vx:Value) (n m:Nat) (xs news:List Value) (hs:a.eval s=v) (hown:w.ownsRow base e size v n xs) (hx:a.eval x=vx) (S:Nat→Prop) (hr:RRow S w vx size bytes m news) (h1:∀ u∈news,u.oneCell'=true)
 (hbytes:(n+m)*bytes≤140737488355328) (hby:0<bytes) (hbase:base≤w.heap.size)
 (h:∀ v' w',w'.ownsRow base e size v' (n+m) (xs++news)→w.grownBy w' v.ownBlock→wpList P ops Q rest (a.put o.dst v') w'):wpList P ops Q (o::rest) a w:=by
 obtain ⟨i,hi0,hz,hsize,hbyt⟩:=info_parts hi;refine wpList_step fun K hK=>?_;rw [if_pos hgd];obtain ⟨ad,cap,rfl,hn,hnil,hlen,hb,hcell⟩:=hr;cases ad with
 | none =>
  have:cap=0:=hnil rfl;subst this;have:m=0:=by omega
  subst this;have:news=[]:=by simpa using hlen
  subst this;have hrun:=run_append_owned_none (P:=P) (w:=w) base t o.type e i size ht hi0 v n xs hown;unfold Oper.wp;simp [execOp,ho,resolve,invoke,builtin,hs,hx,hrun,Result.andThen];exact hK _ _ (h v w (by simpa using hown) (World.grownBy.refl ..))
 | some ad =>
  refine wp_append_own w s x t ho base e i z size bytes ht hi0 hz hsize hbyt hzs hsz v n xs hs hown ad m cap news hx hlen (fun j u hj=>?_) h1 (by unfold maxLen;exact Ar (B2 _ hby) (Ar hbytes E9)) hbytes hbase fun v' w' h2 h3 _=>hK _ _ (h v' w' h2 h3);obtain ⟨b,off,ha,_,hc⟩:=hcell j u hj;cases ha;simpa [Addr.add_lit] using hc
theorem RRow.one (w:World) (u:Value) (t:TypeId) (bytes:Nat) (hb:bytes≤140737488351232):RRow (fun _=>True) (w.alloc (.cells #[u] t)) (.slice (some ⟨w.heap.size,0,none⟩) 1 1) 1 bytes 1 [u]:=by
 refine ⟨_,_,rfl,Aa _,fun h=>by simp at h,rfl,by omega,fun i x hx=>⟨w.heap.size,0,rfl,trivial,?_⟩⟩;have h:=cell_one_new w u t i x hx;rwa [Addr.add_lit] at h
theorem qtk (w:World) (base:Nat) (e:TypeId) (size:Nat):w.ownsRow base e size (.slice none 0 0) 0 []:=⟨by simp,.inl ⟨rfl,rfl⟩⟩
def q1l (w:World) (l:List Int) (e:Ending) (w':World):Prop:=∃ v,e= .returned v∧RInts (fun b=>w.heap.size≤b) w' v l∧Below w.heap.size w w'
def qf0 (P:Program) (e:TypeId):Bool :=
 (match P.underlying e with | some (.struct _) | some (.array _ _) | none=>false | _=>true)&&((P.info? e).map (·.size)==some 1)
theorem q6i {P:Program} {e:TypeId} (he:qf0 P e=true) (cs:Array Value) (k:Nat) (v:Value) (hv:cs[k]? = some v) (w:World):(part e cs k).run P w= .ok v w:=by
 unfold qf0 at he;rw [X1] at he;cases hd:P.underlying e with
 | none=>rw [hd] at he;simp at he
 | some d =>
  have hagg:(isAgg e).run P w= .ok false w:=by
   unfold isAgg;rw [X6,run_underlying hd w];rw [hd] at he;cases d<;>simp_all
  simp [part,hagg,hv]
theorem q6j {P:Program} {e:TypeId} {n:Nat} (he:(P.info? e).map (·.size)=some n) (w:World):(sizeOf e).run P w= .ok n w:=by
 cases hq:P.info? e with
 | none=>simp [hq] at he
 | some i =>
  rw [hq] at he;simp only [Ac,Option.some.injEq] at he;subst he;simp [sizeOf,typeInfo,hq]
theorem qv9 {P:Program} {t e:TypeId} {n:Nat} (hu:P.underlying t=some (.array n e)) (he:qf0 P e=true) (cs:Array Value) (k:Nat) (v:Value) (hk:k<n) (hv:cs[k]? = some v) (w:World) :
 (Instr.index t (.agg cs) (.int .i64 (k:Int))).run P w= .ok v w:=by
 have hs:(P.info? e).map (·.size)=some 1:=by unfold qf0 at he;rw [X1,beq_iff_eq] at he;exact he.2
 have hp:=q6i he cs k v hv w;unfold Instr.index;simp [asIntOf,run_underlying hu w,hk,q6j hs w,hp]
theorem zdb {P:Program} {f:FuncId} {args:Array Value} {w:World} {x:Ending} (h:Calls P f args w fun e w'=>e=x∧w=w'):Calls P f args w fun e w'=>e=x∧w'=w :=
 h.mono fun _ _ h=>⟨h.1,h.2.symm⟩
theorem qtl (w:World) (a b:Nat):(w.drewN a).drewN b=w.drewN (a+b):=by simp [World.drewN,Dk]
theorem Below.drewN {B:Nat} {a w:World} (h:Below B a w) (n:Nat):Below B a (w.drewN n):=⟨h.os,h.tape,h.output,h.size,h.block⟩
abbrev Aw := @List.getElem?_map
abbrev As := @List.getD_eq_getElem?_getD
abbrev Xy := @List.getElem?_eq_getElem
theorem RRow.lit (w:World) (cs:List Value) (t:TypeId) (size bytes n:Nat) (hl:cs.length=n*size) (hb:n*bytes≤140737488351232) :
 RRow (fun b=>w.heap.size≤b) (w.alloc (.cells cs.toArray t)) (.slice (some ⟨w.heap.size,0,none⟩) n n) size bytes n cs:=by
 refine ⟨_,_,rfl,Aa _,fun h=>by simp at h,hl,hb,fun i x hx=>⟨w.heap.size,0,rfl,Aa _,?_⟩⟩;rw [World.cell?_alloc_at _ _ _ _ rfl];simpa using hx
def q3m (S:Nat→Prop) (w:World) (v:Value) (xs:List Int):Prop:=RRow S w v 1 1 xs.length (xs.map (Value.int .u8))
theorem qlo {P:Program} {w:World} {v:Value} {S:Nat→Prop} {xs:List Int} (hr:q3m S w v xs) {src dst e:TypeId} (hs:P.underlying src=some (.slice e)) (he:P.underlying e=some (.int .u8)) (hd:P.underlying dst=some .string) :
 (convert src dst v).run P w= .ok (.string (strOfNums xs)) w:=by
 obtain ⟨a,cap,rfl,h1,h2,h3,h4,h5⟩:=hr;cases a with
 | none =>
  have hc:=h2 rfl;have:xs=[]:=List.eq_nil_of_length_eq_zero E8;subst this;rw [run_convert_bytes_nil w src e hs he _ _ dst hd];rfl
 | some a =>
  cases xs with
  | nil =>
   rw [run_convert_bytes_string w src dst e _ _ _ hs he hd];have hl:(loadCells a ([]:List Int).length).run P w= .ok (([]:List Int).map (Value.int .u8)).toArray w:=by
    simpa using run_loadCells_list (P:=P) w a [] (fun j v hj=>by simp at hj)
   rw [run_bytesToString w _ _ _ [] hl];rfl
  | cons x t =>
   obtain ⟨b,off,ha,_,_⟩:=h5 0 (.int .u8 x) (by simp);cases ha;refine run_convert_bytes_arg w src e hs he b off _ _ (x::t) rfl (fun i hi=>?_) dst hd;obtain ⟨b',off',ha',_,hc⟩:=h5 i (.int .u8 ((x::t).getD i 0)) (by rw [Aw,As,Xy hi];rfl);cases ha';exact hc
theorem qo1 {P:Program} {w:World} {ops:Array Oper} {rest:List Oper} {o:Oper} {a:Act} {Q:Exit→Act→World→Prop} (hgd:Region.wanted o (yielded ops a.tmps)=true) (src dst e:TypeId) (x:Operand)
 (ho:o.op= .convert src dst x) (hs:P.underlying src=some (.slice e)) (he:P.underlying e=some (.int .u8)) (hd:P.underlying dst=some .string)
 (v:Value) (hx:a.eval x=v) (S:Nat→Prop) (xs:List Int) (hr:q3m S w v xs)
 (h:wpList P ops Q rest (a.put o.dst (.string (strOfNums xs))) w):wpList P ops Q (o::rest) a w:=by
 refine wpList_step fun K hK=>?_;rw [if_pos hgd];have hrun:=qlo hr hs he hd;unfold Oper.wp;simp only [execOp,ho,hx];simp [hrun];exact hK _ _ h
theorem q6k {a b:ByteArray} (h:a.data.toList=b.data.toList):a=b:=by
 cases a;cases b;simp only at h;congr 1;exact Array.toList_inj.1 h
abbrev B8 := @List.take_succ_eq_append_getElem
abbrev Bn := @List.length_take
abbrev Bj := @List.cons_append
abbrev Am := @List.nil_append
abbrev D6 := @Array.getElem?_modify
abbrev A3 := @Bool.false_eq_true
abbrev Ey := @List.foldl_cons
abbrev B9 := @Nat.add_zero
abbrev A6 := @List.map_cons
abbrev Er := @List.getElem?_cons_zero
abbrev El := @Array.mapM_eq_mapM_toList
abbrev A5 := @Nat.one_mul
abbrev Xx := @Rep.len
abbrev Bq := @List.flatten_cons
abbrev Ed := @Nat.add_comm
abbrev Bf := @List.drop_zero
abbrev D7 := @List.flatMap_def
abbrev Bo := @Rep.mono
theorem qo2 {P:Program} {f:FuncId} {fn:Func} {c:Code} (hf:P.funcs[f]? = some fn) (hname:(fn.name == "runtime.NumGoroutine")=false) (hb:fn.body=some c) (args:Array Value) (w:World) :
 (callFunc f args).run P w= .ok (.enter f args) w:=by
 have h1:fn.name ≠ "runtime.NumGoroutine" := by simpa using hname
 simp [callFunc,hf,h1,hb]
theorem qf1 {α : Type}:∀ {H:List α} {j:Nat} {e : α},H[j]? = some e→H.Perm (e::H.eraseIdx j)
 | [],_,_,h=>by simp at h
 | a::t,0,e,h=>by simp at h;subst h;exact List.Perm.refl _
 | a::t,j+1,e,h=>by
  simp only [List.getElem?_cons_succ] at h;simp only [List.eraseIdx_cons_succ];exact ((qf1 h).cons a).trans (List.Perm.swap _ _ _)
theorem qht {α : Type}:∀ {H:List α} {j:Nat} {e : α} (e' : α),H[j]? = some e→(e'::H.eraseIdx j).Perm (H.set j e')
 | [],_,_,_,h=>by simp at h
 | a::t,0,e,e',h=>by simp
 | a::t,j+1,e,e',h=>by
  simp only [List.getElem?_cons_succ] at h;simp only [List.eraseIdx_cons_succ,List.set_cons_succ];exact (List.Perm.swap _ _ _).trans ((qht e' h).cons a)
theorem zag (cs:List Value) (o:Nat):pt cs o []=cs:=by simp [pt]
theorem q6l (cs:List Value) (o:Nat) (v:Value) (ws:List Value) (h:o<cs.length):pt (cs.set o v) (o+1) ws=pt cs o (v::ws):=by
 unfold pt;rw [List.take_set,List.drop_set,if_pos E8];rw [B8 h,List.set_append_right _ _ (by simp;omega)];simp only [Bn,X9,Al];have:o-min o cs.length=0:=by omega
 rw [this];simp only [List.set_cons_zero,Bj,Am];congr 3;congr 1;omega
theorem qjb {P:Program} {b:Nat} {t:TypeId} {o:Nat}:∀ (ws:List Value) (i:Nat) (w:World) (cs:List Value),w.heap[b]? = some (.cells cs.toArray t (0,0))→o+i+ws.length≤cs.length→(∀ u∈ws,u.oneCell'=true) →
 ∃ w',(storeCells ⟨b,o,none⟩ ws i).run P w= .ok () w'∧w'.os=w.os∧w'.tape=w.tape∧w'.output=w.output∧w'.heap[b]? = some (.cells (pt cs (o+i) ws).toArray t (0,0))∧(∀ k,k≠b→w'.heap[k]? = w.heap[k]?)∧w'.heap.size=w.heap.size:=by
 intro ws
 induction ws with
 | nil=>intro i w cs hb hl h1;exact ⟨w,by simp [storeCells],rfl,rfl,rfl,by rw [zag];exact hb,fun _ _=>rfl,rfl⟩
 | cons v ws ih =>
  intro i w cs hb hl h1;simp only [X9] at hl;have hv:=h1 v X2;have hcell:w.cell? ⟨b,o+i,none⟩=some (cs[o+i]'(by omega)):=by simp [World.cell?,hb]
  have hfr:w.frozen? ⟨b,o+i,none⟩=false:=by simp [World.frozen?,hb]
  have hb':(w.setCell ⟨b,o+i,none⟩ v).heap[b]? = some (.cells (cs.set (o+i) v).toArray t (0,0)):=by
   simp [World.setCell,D6,hb]
  obtain ⟨w',hr,e1,e2,e3,e4,e5,e6⟩:=ih (i+1) (w.setCell ⟨b,o+i,none⟩ v) (cs.set (o+i) v) hb' (by simp;omega) (fun u hu=>h1 u (X0 _ hu));refine ⟨w',?_,e1,e2,e3,?_,fun k hk=>?_,?_⟩
  ·unfold storeCells;rw [X6,Addr.add_mid,run_store P w _ v _ hv,hcell];simp only [hfr,A3,if_false,Result.andThen];exact hr
  ·rw [e4,← Dk,q6l _ _ _ _ E8]
  ·rw [e5 k hk];exact Below.heap_setCell _ _ _ _ hk
  ·rw [e6];simp [World.setCell]
section
variable {P:Program} {n:Nat} {Q:Exit→Tm→World→Prop} {T:Tm} {w w0:World} {X:Nat→Prop} {M:Mm} {H:List Ent} {K:Tm→World→Prop} {dst:Option Tmp} {ty:TypeId} {pos:String} {af:Array Edge} {g:Option (Nat × Bool)}
theorem OW.of_run {o:Oper} {v:Value} {w':World} (h:(execOp (evT T) o).run P w= .ok (.value v) w') (k:K (qrd T o.dst v) w'):OW P n Q o T w K:=by
 intro hok a ha;unfold Oper.wp;rw [ha.eval,h];exact ⟨_,ha.put o.dst v (operOk.lt hok),k⟩
theorem OW.of_skip {o:Oper} {w':World} (h:(execOp (evT T) o).run P w= .ok .skip w') (k:K (qrd T o.dst undef) w'):OW P n Q o T w K:=by
 intro hok a ha;unfold Oper.wp;rw [ha.eval,h];exact ⟨_,ha.put o.dst undef (operOk.lt hok),k⟩
theorem O_st {j b off m:Nat} {cs ws:List Value} {t t':TypeId} {x y:Operand} {v:Value} (hSt:St w0 X M H w) (hj:H[j]? = some (.box b cs t')) (hn:(P.info? t).map (·.size)=some m) (hx:evT T x= .pointer (some ⟨b,off,none⟩)) (hy:evT T y=v)
 (hv:v.cells.toList=ws) (hm:ws.length=m) (h1:∀ u∈ws,u.oneCell'=true) (hle:off+m≤cs.length) (k:∀ w',St w0 X M (H.set j (.box b (pt cs off ws) t')) w'→K T w') :
 OW P n Q ⟨none,.store t x y,ty,pos,af,g⟩ T w K:=by
 have hbx:=(hSt.ents _ (X7 hj)).1;obtain ⟨w',hr,e1,e2,e3,e4,e5,e6⟩:=qjb (P:=P) (o:=off) ws 0 w cs hbx E8 h1;have hsz:v.cells.size=m:=by rw [← hm,← hv];simp
 refine OW.of_skip (w':=w') ?_ ?_
 ·simp [execOp,hx,hy,Instr.storeAt,Instr.sureAddr,storeVar,qaw hn,hsz,hv,hr]
 ·exact k w' (((hSt.perm (qf1 hj)).write e1 e2 e3 e4 e5 e6).perm (qht _ hj))
def TZ (P:Program) (t:TypeId) (zs:List Value):Prop:=∃ i z,P.info? t=some i∧i.zero=some z∧z.cells.toList=zs
theorem za0 {t:TypeId} {zs:List Value} (hz:TZ P t zs) (hSt:St w0 X M H w) (k:∀ b w',w0.heap.size≤b→St w0 X M (.box b zs t::H) w'→K (qrd T dst (.pointer (some ⟨b,0,none⟩))) w'):OW P n Q ⟨dst,.alloc t,ty,pos,af,g⟩ T w K:=by
 obtain ⟨i,z,h1,h2,h3⟩:=hz;have hc:z.cells=zs.toArray:=by rw [← h3]
 refine OW.of_run (v:= .pointer (some ⟨w.heap.size,0,none⟩)) (w':=w.alloc (.cells zs.toArray t)) ?_ (k _ _ hSt.size (hSt.alloc zs t));simp [execOp,Instr.alloc,zeroValue,typeInfo,h1,h2,newVar,newRow,newObj,hc];rfl
theorem zgg {t:TypeId} {x:Operand} {v:Value} {cs:List Value} (hx:evT T x=v) (hv:v.cells.toList=cs) (hSt:St w0 X M H w) (k:∀ b w',w0.heap.size≤b→St w0 X M (.box b cs t::H) w'→K (qrd T dst (.pointer (some ⟨b,0,none⟩))) w'):OW P n Q ⟨dst,.box t x,ty,pos,af,g⟩ T w K:=by
 have hc:v.cells=cs.toArray:=by rw [← hv]
 refine OW.of_run (v:= .pointer (some ⟨w.heap.size,0,none⟩)) (w':=w.alloc (.cells cs.toArray t)) ?_ (k _ _ hSt.size (hSt.alloc cs t));simp [execOp,Instr.box,hx,newVar,newRow,newObj,hc];rfl
theorem qzb:∀ (vs:List Value) (cs:List Value) (off k:Nat),off+k+vs.length≤cs.length →
 (vs.zipIdx k).foldl (fun (c:Array Value) (x:Value × Nat)=>c.setIfInBounds (off+x.2) x.1) cs.toArray=(pt cs (off+k) vs).toArray:=by
 intro vs
 induction vs with
 | nil=>intro cs off k _;simp [zag]
 | cons v vs ih =>
  intro cs off k h;simp only [X9] at h;simp only [List.zipIdx_cons,Ey];have:=ih (cs.set (off+k) v) off (k+1) (by simp;omega);rw [← Dk,q6l _ _ _ _ E8] at this;rw [← this];simp
def qay (place:Nat→Option (Nat × Nat)):List Value→List (Nat × Value)→Option (List Value)
 | cs,[]=>some cs
 | cs,(i,v)::rest =>
  match place i with
  | none=>none
  | some (off,size)=>if v.cells.size=size∧off+size≤cs.length then qay place (pt cs off v.cells.toList) rest else none
theorem qpm {place:Nat→Option (Nat × Nat)}:∀ (parts:List (Nat × Value)) (cs ds:List Value),qay place cs parts=some ds→Instr.fill place cs.toArray parts=some ds.toArray:=by
 intro parts
 induction parts with
 | nil=>intro cs ds h;simp only [qay,Option.some.injEq] at h;subst h;rfl
 | cons p rest ih =>
  intro cs ds h;obtain ⟨i,v⟩:=p;simp only [qay] at h;simp only [Instr.fill];cases hp:place i with
  | none=>rw [hp] at h;cases h
  | some q =>
   obtain ⟨off,size⟩:=q;rw [hp] at h;simp only at h ⊢;split at h
   ·rename_i hk;have hc:¬ (v.cells.size≠size||off+v.cells.size>cs.toArray.size)=true:=by simp;omega
    rw [if_neg hc,← ih _ _ h];congr 1;have hlen:v.cells.toList.length=v.cells.size:=by simp
    have:=qzb v.cells.toList cs off 0 E8;simp only [B9] at this;rw [← this,← Array.foldl_toList];simp [Array.toList_zipIdx]
   ·cases h
def TB (P:Program) (t:TypeId) (zs:List Value) (pl:List (Nat × Nat)):Prop :=
 ∃ fields i z,P.underlying t=some (.struct fields)∧P.info? t=some i∧i.zero=some z∧z.cells.toList=zs∧fields.toList.map (·.offset)=pl.map (·.1)∧∀ (j:Nat) (f:Field),fields.toList[j]? = some f→(P.info? f.type).map (·.size)=(pl[j]?).map (·.2)
theorem q4n {fs:List Field} {pl:List (Nat × Nat)} (h1:fs.map (·.offset)=pl.map (·.1)) (h2:∀ (j:Nat) (f:Field),fs[j]? = some f→(P.info? f.type).map (·.size)=(pl[j]?).map (·.2)) (w:World) :
 (fs.mapM fun f=>Functor.map (Prod.mk f.offset) (sizeOf f.type):Sem (List (Nat × Nat))).run P w= .ok pl w:=by
 induction fs generalizing pl with
 | nil =>
  cases pl with
  | nil=>simp
  | cons a t=>simp at h1
 | cons f fs ih =>
  cases pl with
  | nil=>simp at h1
  | cons a t =>
   simp only [A6,List.cons.injEq] at h1;have hs:=h2 0 f rfl;simp only [Er,Ac] at hs;have:=ih h1.2 (fun j f hf=>h2 (j+1) f hf);simp [List.mapM_cons,qaw hs w,this,h1.1]
theorem za1 {S:World→Prop} {t:TypeId} {zs ds:List Value} {pl:List (Nat × Nat)} {parts:List (Nat × Operand)} (vs:List (Nat × Value)) (ht:TB P t zs pl) (hp:parts.map (fun p=>(p.1,evT T p.2))=vs) (hd:qay (pl[·]?) zs vs=some ds) :
 YV P S T ⟨dst,.build t parts.toArray,ty,pos,af,g⟩ (.agg ds.toArray):=by
 intro w _;obtain ⟨fields,i,z,h1,h2,h3,h4,h5,h6⟩:=ht;have hz:z.cells=zs.toArray:=by rw [← h4]
 have hpl:=q4n (P:=P) h5 h6 w;have hm:(fields.mapM fun f=>Functor.map (Prod.mk f.offset) (sizeOf f.type):Sem (Array (Nat × Nat))).run P w= .ok pl.toArray w:=by
  rw [El];rw [Sem.run_map,hpl];rfl
 have hf:=qpm (place:=fun i=>pl[i]?) vs zs ds hd;have hv:(parts.toArray.map fun (p:Nat × Operand)=>(p.1,evT T p.2)).toList=vs:=by rw [← hp];simp
 simp only [execOp,Instr.build];simp only [X6,zeroValue,typeInfo];simp [run_underlying h1 w,hm,hz,hp,hf,h2,h3]
theorem zdc (a b:List Value) (ws:List Value) (h:ws.length≤b.length):pt (a++b) a.length ws=a++ws++b.drop ws.length:=by
 unfold pt;simp [List.drop_append]
theorem q6m (k:Nat):∀ (vs:List Value) (i:Nat) (done rest:List Value),done.length=i*k→rest.length=vs.length*k→(∀ v∈vs,v.cells.size=k) →
 qay (fun i=>some (i*k,k)) (done++rest) (vs.zipIdx i |>.map fun p=>(p.2,p.1))=some (done++vs.flatMap (fun v=>v.cells.toList)):=by
 intro vs
 induction vs with
 | nil=>intro i done rest h1 h2 h3;simp at h2;subst h2;simp [qay]
 | cons v vs ih =>
  intro i done rest h1 h2 h3;have hv:=h3 v X2;simp only [X9,Aq,A5] at h2;simp only [List.zipIdx_cons,A6,qay];rw [if_pos ⟨hv,by simp;omega⟩];have hp:=zdc done rest v.cells.toList (by simp;omega);rw [h1] at hp;rw [hp];have:=ih (i+1) (done++v.cells.toList) (rest.drop k) (by simp [h1,hv,Aq]) (by simp;omega) (fun u hu=>h3 u (X0 _ hu));simp only [Array.length_toList,hv];rw [this];simp
theorem qo3 {α : Type} [Rep α] {M:Mm} {b:Nat} {vs:List (List Value)} {l:List α} {cap:Nat} (hb:M b=some vs.flatten) (hl:vs.length=l.length) (hc:l.length≤cap) (hby:l.length*Rep.bytes α ≤ 140737488351232) (h:∀ (i:Nat) ws x,vs[i]? = some ws→l[i]? = some x→rep M ws x) :
 repL M (.slice (some ⟨b,0,none⟩) l.length cap) l:=by
 refine ⟨some ⟨b,0,none⟩,cap,rfl,hc,fun h=>(by cases h),hby,fun i x hx=>?_⟩;have hi:i<vs.length:=by rw [hl];exact (Xz.1 hx).1
 have hlens:∀ ws∈vs,ws.length=Rep.k α := by
  intro ws hws;obtain ⟨j,hj⟩:=Au hws;have hjl:j<l.length:=by rw [← hl];exact (Xz.1 hj).1
  exact Xx (h j ws l[j] hj (by simp))
 have hfl:∀ (us:List (List Value)),(∀ ws∈us,ws.length=Rep.k α)→us.flatten.length=us.length*Rep.k α := by
  intro us
  induction us with
  | nil=>simp
  | cons u us ih=>intro hu;simp only [Bq,X5,X9,Aq,A5];rw [ih (fun w hw=>hu w (X0 _ hw)),hu u X2,Ed]
 have hsl:∀ (us:List (List Value)) (i:Nat) (hi:i<us.length),(∀ ws∈us,ws.length=Rep.k α)→sl us.flatten (i*Rep.k α) (Rep.k α)=us[i]:=by
  intro us
  induction us with
  | nil=>intro i hi;simp at hi
  | cons u us ih =>
   intro i hi hu;have hul:=hu u X2;cases i with
   | zero =>
    simp only [Ew,Bq,List.getElem_cons_zero,sl,Bf];rw [← hul];simp
   | succ i =>
    simp only [Bq,List.getElem_cons_succ,sl];rw [← ih i (by simpa using hi) (fun w hw=>hu w (X0 _ hw)),sl];rw [Aq,A5,← hul,Ed,List.drop_length_add_append]
 refine ⟨b,0,vs.flatten,rfl,hb,?_,?_⟩
 ·rw [hfl vs hlens];have:=Af (Rep.k α) (show i+1≤vs.length from hi);rw [Aq,A5] at this;omega
 ·rw [B4,hsl vs i hi hlens];exact h i _ x (by simp) hx
def TL (P:Program) (t:TypeId) (k:Nat):Prop:=∃ e i z,P.underlying t=some (.slice e)∧P.info? e=some i∧i.zero=some z∧z.cells.size=k∧i.size=k∧0<k
theorem qho {t e:TypeId} {i:TypeInfo} {z:Value} {k m:Nat} {vs:List Value} (h2:P.underlying t=some (.slice e)) (h3:P.info? e=some i) (h4:i.zero=some z) (h5:z.cells.size=k) (h6:i.size=k) (h7:0<k) (hm:vs.length=m) (h1:∀ v∈vs,v.cells.size=k) (hs:m*k≤1000) (hm0:0<m) (w:World) :
 (Instr.buildSlice t m ((vs.zipIdx.map fun p=>(p.2,p.1)).toArray)).run P w= .ok (.slice (some ⟨w.heap.size,0,none⟩) m m) (w.alloc (.cells (vs.flatMap (fun v=>v.cells.toList)).toArray e)):=by
 have hmk:m*k≠0:=Nat.mul_ne_zero E8 E8;have hlt:¬ (m*k>16777216):=by omega
 have hf:=qpm (vs.zipIdx.map fun p=>(p.2,p.1)) ((List.range (m*k)).map (fun j=>z.cells[j%z.cells.size]!)) _ (by
  have:=q6m k vs 0 [] ((List.range (m*k)).map (fun j=>z.cells[j%z.cells.size]!)) (by simp) (by simp [hm]) h1
  simpa using this)
 have ha:((Array.range (m*k)).map fun j=>z.cells[j%z.cells.size]!)=((List.range (m*k)).map (fun j=>z.cells[j%z.cells.size]!)).toArray:=by
  apply Array.ext';simp
 simp only [Instr.buildSlice,X6,run_underlying h2 w,Result.andThen,qaw (P:=P) (t:=e) (n:=k) (by rw [h3];simp [h6]) w];rw [if_neg (by simpa using hlt)];simp only [if_neg hmk,X6,zeroValue,typeInfo,h3,h4,Sem.run_pure,Result.andThen,program,Sem.run];simp only [pure];rw [ha,hf];simp only [X6,newRow,newObj];rfl
theorem qod {t:TypeId} {k m:Nat} {vs:List Value} (ht:TL P t k) (hm:vs.length=m) (h1:∀ v∈vs,v.cells.size=k) (hs:m*k≤1000) (hm0:0<m) (w:World):∃ e,
 (Instr.buildSlice t m ((vs.zipIdx.map fun p=>(p.2,p.1)).toArray)).run P w= .ok (.slice (some ⟨w.heap.size,0,none⟩) m m) (w.alloc (.cells (vs.flatMap (fun v=>v.cells.toList)).toArray e)):=by
 obtain ⟨e,i,z,h2,h3,h4,h5,h6,h7⟩:=ht;exact ⟨e,qho h2 h3 h4 h5 h6 h7 hm h1 hs hm0 w⟩
theorem q87 {α : Type} [Rep α] {t:TypeId} {m:Nat} {parts:List (Nat × Operand)} {l:List α} (vs:List Value) (ht:TL P t (Rep.k α)) (hp:parts.map (fun p=>(p.1,evT T p.2))=vs.zipIdx.map (fun p=>(p.2,p.1))) (hm:vs.length=m) (hl:l.length=m) (hm0:0<m) (hs:m*Rep.k α ≤ 1000) (hby:m*Rep.bytes α ≤ 140737488351232)
 (hSt:St w0 X M H w) (hr:∀ (i:Nat) v x,vs[i]? = some v→l[i]? = some x→rep M v.cells.toList x) (k:∀ v M' w',Mm.ext w0.heap.size X M M'→repL M' v l→St w0 X M' H w'→K (qrd T dst v) w'):OW P n Q ⟨dst,.buildSlice t m parts.toArray,ty,pos,af,g⟩ T w K:=by
 have hcells:∀ v∈vs,v.cells.size=Rep.k α := by
  intro v hv;obtain ⟨j,hj⟩:=Au hv;have hjl:j<l.length:=by rw [hl,← hm];exact (Xz.1 hj).1
  have:=Xx (hr j v l[j] hj (by simp));simpa using this
 obtain ⟨e,hrun⟩:=qod (P:=P) ht hm hcells hs hm0 w;have hfl:(vs.flatMap fun v=>v.cells.toList)=(vs.map fun v=>v.cells.toList).flatten:=by rw [D7]
 have hle:=Mm.put_le (M:=M) (b:=w.heap.size) (vs.flatMap fun v=>v.cells.toList) (hSt.none_at (Aa _));refine OW.of_run (v:= .slice (some ⟨w.heap.size,0,none⟩) m m) (w':=w.alloc (.cells (vs.flatMap (fun v=>v.cells.toList)).toArray e)) ?_ (k _ _ _ (hSt.extM _) ?_ (hSt.allocM _ e))
 ·have hpa:(parts.toArray.map fun (p:Nat × Operand)=>(p.1,evT T p.2))=(vs.zipIdx.map fun p=>(p.2,p.1)).toArray:=by rw [← hp];simp
  simp only [execOp,X6];rw [show (Array.map (fun x=>match x with | (i,x)=>(i,evT T x)) parts.toArray)=(vs.zipIdx.map fun p=>(p.2,p.1)).toArray from hpa,hrun];rfl
 ·subst hl;refine qo3 (vs:=vs.map fun v=>v.cells.toList) (by rw [Mm.put_same,hfl]) (by simp [hm]) (Aa _) hby ?_;intro i ws x hws hx;rw [Aw] at hws;cases hv:vs[i]? with
  | none=>rw [hv] at hws;cases hws
  | some v =>
   rw [hv] at hws;simp only [Ac,Option.some.injEq] at hws;subst hws;exact Bo hle (hr i v x hv hx)
theorem q3n {f:FuncId} {fn:Func} {c:Code} {args:List Operand} {ats:Array TypeId} {vs:List Value} {R:Ending→World→Prop} (hf:P.funcs[f]? = some fn) (hname:(fn.name == "runtime.NumGoroutine")=false) (hb:fn.body=some c)
 (ha:args.map (evT T)=vs) (hc:Calls P f vs.toArray w R) (hk:∀ e w',R e w'→∃ v,e= .returned v∧K (qrd T dst v) w'):OW P n Q ⟨dst,.call ⟨.value (.func f),args.toArray,ats⟩,ty,pos,af,g⟩ T w K:=by
 intro hok a hfr;unfold Oper.wp;have hr:(execOp a.eval ⟨dst,.call ⟨.value (.func f),args.toArray,ats⟩,ty,pos,af,g⟩).run P w= .ok (.enter f vs.toArray) w:=by
  rw [hfr.eval];have h1:(args.toArray.map (evT T))=vs.toArray:=by rw [← ha];simp
  have h2:=qo2 (P:=P) hf hname hb vs.toArray w;simp [execOp,resolve,evT,Deferred.ofValue,invoke,ha,h2]
 rw [hr];show Calls P f vs.toArray w _;refine hc.mono ?_;intro e w' he;obtain ⟨v,rfl,hK⟩:=hk e w' he;exact ⟨_,hfr.put dst v (operOk.lt hok),hK⟩
theorem q4o:([]:List Operand).map (evT T)=[]:=rfl
theorem zgh {x:Operand} {v:Value} (h:evT T x=v):[x].map (evT T)=[v]:=by simp [h]
theorem zgi {x y:Operand} {v u:Value} (h:evT T x=v) (h':evT T y=u):[x,y].map (evT T)=[v,u]:=by simp [h,h']
theorem zgj {x y z:Operand} {v u t:Value} (h:evT T x=v) (h':evT T y=u) (h'':evT T z=t):[x,y,z].map (evT T)=[v,u,t]:=by simp [h,h',h'']
theorem q6n {x y z a:Operand} {v u t s:Value} (h:evT T x=v) (h':evT T y=u) (h'':evT T z=t) (h4:evT T a=s):[x,y,z,a].map (evT T)=[v,u,t,s]:=by simp [h,h',h'',h4]
end
abbrev Ez := @List.range_succ
abbrev Bm := @List.map_append
abbrev Da := @List.map_nil
abbrev Eb := @List.append_nil
abbrev Bs := @List.length_map
abbrev Av := @List.length_eq_zero_iff
abbrev D8 := @List.take_prefix
abbrev Ag := @Nat.zero_le
class Flat (α : Type) extends Rep α where
 cells : α → List Value
 flat:∀ {M cs x},rep M cs x↔cs=cells x
instance:Flat Int:={ (inferInstance:Rep Int) with cells:=fun x=>[.int .i64 x],flat:=Iff.rfl }
instance:Flat Byt:={ (inferInstance:Rep Byt) with cells:=fun x=>[.int .u8 x.val],flat:=Iff.rfl }
instance instRepGOp:Rep GOp where
 k:=3
 bytes:=24
 rep _ cs x:=cs=qkp x
 len h:=by rw [h];rfl
 mono _ h:=h
 one h:=by rw [h];simp [qkp,Value.oneCell']
instance:Flat GOp:={ instRepGOp with cells:=qkp,flat:=Iff.rfl }
theorem qni {α : Type} [Flat α] (x : α):(Flat.cells x).length=Rep.k α := Xx (M:=fun _=>none) (Flat.flat.2 rfl)
theorem qhu {α : Type} [Rep α] {M:Mm} {v:Value} {l:List α} (h:repL M v l):∃ a cap,v= .slice a l.length cap∧l.length≤cap∧(a=none→cap=0)∧l.length*Rep.bytes α ≤ 140737488351232 ∧
 ∃ css:List (List Value),css.length=l.length∧(∀ (i:Nat) ws x,css[i]? = some ws→l[i]? = some x→rep M ws x)∧(l≠[]→∃ b off p,a=some ⟨b,off,none⟩∧M b=some p∧off+l.length*Rep.k α ≤ p.length∧css.flatten=sl p off (l.length*Rep.k α)):=by
 obtain ⟨a,cap,rfl,h1,h2,h3,h4⟩:=h;refine ⟨a,cap,rfl,h1,h2,h3,?_⟩;cases l with
 | nil=>exact ⟨[],rfl,by simp,fun h=>absurd rfl h⟩
 | cons x0 t =>
  obtain ⟨b,off,p,rfl,hb,hle0,hr0⟩:=h4 0 x0 rfl;have hall:∀ (i:Nat) x,(x0::t)[i]? = some x→off+i*Rep.k α + Rep.k α ≤ p.length∧rep M (sl p (off+i*Rep.k α) (Rep.k α)) x:=by
   intro i x hx;obtain ⟨b',off',p',he,hb',hle,hr⟩:=h4 i x hx;simp only [Option.some.injEq,Addr.mk.injEq,and_true] at he;obtain ⟨rfl,rfl⟩:=he;rw [hb] at hb';cases hb';exact ⟨hle,hr⟩
  generalize hL:(x0::t)=L at *;have hne:0<L.length:=by rw [← hL];simp
  refine ⟨(List.range L.length).map fun i=>sl p (off+i*Rep.k α) (Rep.k α),by simp,?_,fun _=>⟨b,off,p,rfl,hb,?_,?_⟩⟩
  ·intro i ws x hws hx;rw [Aw] at hws;have hi:=(Xz.1 hx).1;rw [List.getElem?_range hi] at hws;simp only [Ac,Option.some.injEq] at hws;subst hws;exact (hall i x hx).2
  ·have:=(hall (L.length-1) L[L.length-1] (by simp)).1;have e:L.length*Rep.k α = (L.length-1)*Rep.k α + Rep.k α := by
    rw [← Ec];congr 1;omega
   omega
  ·have key:∀ n,n≤L.length→((List.range n).map fun i=>sl p (off+i*Rep.k α) (Rep.k α)).flatten=sl p off (n*Rep.k α):=by
    intro n
    induction n with
    | zero=>intro _;simp [sl]
    | succ n ih =>
     intro hn;rw [Ez,Bm,List.flatten_append,ih E8];simp only [A6,Da,Bq,List.flatten_nil,Eb];rw [q3h,Ec]
   exact key L.length (Aa _)
theorem qtm {M:Mm} {w:World} (hA:Agree M w) {b:Nat} {p:List Value} (hb:M b=some p) {j:Nat} {u:Value} (hj:p[j]? = some u):w.cell? ⟨b,j,none⟩=some u:=by
 obtain ⟨arr,t,fr,h3,r,hr⟩:=hA b p hb;simp only [World.cell?,h3];rw [← Bt,← hr,An (Xz.1 hj).1];simpa using hj
theorem repL.row {α : Type} [Flat α] {M:Mm} {w:World} (hA:Agree M w) {v:Value} {l:List α} (h:repL M v l):RRow (fun b=>(M b).isSome) w v (Rep.k α) (Rep.bytes α) l.length (l.flatMap Flat.cells):=by
 obtain ⟨a,cap,rfl,h1,h2,h3,css,h4,h5,h6⟩:=qhu h;refine ⟨a,cap,rfl,h1,h2,q1k (fun x=>qni x) l,h3,fun i u hu=>?_⟩;have hne:l≠[]:=by rintro rfl;simp at hu
 obtain ⟨b,off,p,rfl,hb,hle,hc⟩:=h6 hne;refine ⟨b,off,rfl,by show (M b).isSome=true;rw [hb];rfl,qtm hA hb ?_⟩;have hcs:css=l.map Flat.cells:=by
  refine Dz fun i=>?_;rw [Aw];cases hx:l[i]? with
  | none=>rw [List.getElem?_eq_none_iff] at hx;exact Bl E8
  | some x =>
   have hi:i<css.length:=by rw [h4];exact (Xz.1 hx).1
   have:=h5 i css[i] x (by simp) hx;rw [Flat.flat] at this;rw [Xy hi,this];rfl
 rw [hcs,← D7] at hc;rw [hc] at hu;rcases Dq i (l.length*Rep.k α) with hi | hi
 ·rw [qg1 _ _ _ _ hi] at hu;exact hu
 ·rw [qby _ _ _ _ hi] at hu;cases hu
theorem q3o (l:List Int):(l.flatMap (Flat.cells:Int→List Value))=l.map (Value.int .i64):=by
 induction l with
 | nil=>rfl
 | cons x t ih=>simp only [A8,A6];rw [ih];rfl
theorem repL.ints {M:Mm} {w:World} (hA:Agree M w) {v:Value} {l:List Int} (h:repL M v l):RInts (fun b=>(M b).isSome) w v l:=by
 have:=h.row hA;have e:(l.flatMap (Flat.cells:Int→List Value))=l.map (Value.int .i64):=q3o l;unfold RInts;rw [← e];exact this
theorem repL.ops {M:Mm} {w:World} (hA:Agree M w) {v:Value} {l:List GOp} (h:repL M v l):ROps (fun b=>(M b).isSome) w v l:=h.row hA
theorem qzc {α : Type} [Flat α] {S:Nat→Prop} {M:Mm} {w:World} {v:Value} {l:List α} (h:RRow S w v (Rep.k α) (Rep.bytes α) l.length (l.flatMap Flat.cells)) (hk:0<Rep.k α)
 (hM:∀ b arr t fr,S b→w.heap[b]? = some (.cells arr t fr)→M b=some arr.toList):repL M v l:=by
 obtain ⟨a,cap,rfl,h1,h2,h3,h4,h5⟩:=h;refine ⟨a,cap,rfl,h1,h2,h4,fun i x hx=>?_⟩;have hi:=(Xz.1 hx).1;have hcell:∀ j,j<Rep.k α → (l.flatMap Flat.cells)[i*Rep.k α + j]? = (Flat.cells x)[j]? := fun j hj=>qnh (fun x=>qni x) l i x j hx hj;have h0:∃ u,(Flat.cells x)[0]? = some u:=⟨(Flat.cells x)[0]'(by rw [qni];exact hk),by simp⟩;obtain ⟨u,hu⟩:=h0;obtain ⟨b,off,rfl,hs,hc⟩:=h5 (i*Rep.k α + 0) u (by rw [hcell 0 hk];exact hu);have hblk:∃ arr t fr,w.heap[b]? = some (.cells arr t fr):=by
  simp only [World.cell?] at hc;split at hc
  ·rename_i arr t fr hh;exact ⟨arr,t,fr,hh⟩
  ·cases hc
 obtain ⟨arr,t,fr,hh⟩:=hblk;have hget:∀ j,j<Rep.k α → arr.toList[off+i*Rep.k α + j]? = (Flat.cells x)[j]? := by
  intro j hj;have hjl:j<(Flat.cells x).length:=by rw [qni];exact hj
  obtain ⟨b',off',he,_,hc'⟩:=h5 (i*Rep.k α + j) ((Flat.cells x)[j]) (by rw [hcell j hj];simp);simp only [Option.some.injEq,Addr.mk.injEq,and_true] at he;obtain ⟨rfl,rfl⟩:=he;simp only [World.cell?,hh] at hc';simp only [Option.isSome_none,A3,if_false] at hc';rw [Bt,Dk,hc'];simp
 refine ⟨b,off,arr.toList,rfl,hM b arr t fr hs hh,?_,?_⟩
 ·have:=hget (Rep.k α - 1) E8;have hx1:∃ u,(Flat.cells x)[Rep.k α - 1]? = some u:=⟨(Flat.cells x)[Rep.k α - 1]'(by rw [qni];omega),by simp⟩;obtain ⟨u1,hu1⟩:=hx1;rw [hu1] at this;have:=(Xz.1 this).1;omega
 ·rw [Flat.flat];refine qo0 fun j=>?_;by_cases hj:j<Rep.k α
  ·rw [qg1 _ _ _ _ hj,hget j hj]
  ·rw [qby _ _ _ _ E8,Bl (by rw [qni];omega)]
section
variable {P:Program} {n:Nat} {Q:Exit→Tm→World→Prop} {T:Tm} {w w0:World} {X:Nat→Prop} {M:Mm} {H:List Ent} {K:Tm→World→Prop} {dst:Option Tmp} {ty:TypeId} {pos:String} {af:Array Edge} {g:Option (Nat × Bool)}
theorem q6o (l:List Byt):(l.flatMap (Flat.cells:Byt→List Value))=(l.map Byt.val).map (Value.int .u8):=by
 induction l with
 | nil=>rfl
 | cons x t ih=>simp only [A8,A6];rw [ih];rfl
theorem zdd {s d e:TypeId} {x:Operand} {v:Value} {l:List Byt} (hA:Agree M w) (hs:P.underlying s=some (.slice e)) (he:P.underlying e=some (.int .u8)) (hd:P.underlying d=some .string) (hx:evT T x=v) (hr:repL M v l) :
 YV P (· = w) T ⟨dst,.convert s d x,ty,pos,af,g⟩ (.string (strOfNums (l.map Byt.val))):=by
 intro w' hw;rw [hw];have h:q3m (fun b=>(M b).isSome) w v (l.map Byt.val):=by
  have:=hr.row hA;rw [q6o] at this;unfold q3m;rw [Bs];exact this
 have hrun:=qlo (P:=P) h hs he hd;simp [execOp,hx,hrun]
theorem St.append {α : Type} [Rep α] {w':World} {v v':Value} {e:TypeId} {m:Nat} {xs news:List Value} {l1 l2:List α} {css:List (List Value)} (hSt:St w0 X M (.row v e (Rep.k α)::H) w) (h1:repL M v l1) (hk:0<Rep.k α)
 (hxs:w.ownsRow 0 e (Rep.k α) v l1.length xs) (hMx:∀ g,v.ownBlock=some g→M g=some xs) (hm:l2.length=m) (hcl:css.length=l2.length) (hcs:∀ (i:Nat) ws x,css[i]? = some ws→l2[i]? = some x→rep M ws x) (hn:news=css.flatten)
 (hown:w'.ownsRow 0 e (Rep.k α) v' (l1.length+m) (xs++news)) (hg:w.grownBy w' v.ownBlock) (hat:v'.ownBlock=v.ownBlock∨(v'.ownBlock=some w.heap.size∧∀ k,k<w.heap.size→w'.heap[k]? = w.heap[k]?)) (hby:(l1.length+m)*Rep.bytes α ≤ 140737488351232) :
 ∃ M',Mm.ext w0.heap.size X M M'∧repL M' v' (l1++l2)∧St w0 X M' (.row v' e (Rep.k α)::H) w':=by
 have hnone:M w.heap.size=none:=hSt.none_at (Aa _);have hapart:=Ax.1 hSt.apart;have hHlt:∀ f∈H,∀ b,f.blk=some b→b<w.heap.size∧v.ownBlock≠some b:=fun f hf b hb=>⟨Ent.lt (hSt.ents f (X0 _ hf)) hb,fun hc=>hapart.1 f hf b hc hb⟩;cases hv':v'.ownBlock with
 | none =>
  refine ⟨M,Mm.ext.refl _ _ _,?_,?_⟩
  ·obtain ⟨_,h | ⟨g,cap,cur,rfl,_⟩⟩:=hown
   ·obtain ⟨rfl,h0⟩:=h;have e1:l1=[]:=Av.1 E8;have e2:l2=[]:=Av.1 E8;subst e1;subst e2;exact qs2 M
   ·cases hv'
  ·have hvn:v.ownBlock=none:=by
    rcases hat with h | h
    ·rw [← h];exact hv'
    ·rw [hv'] at h;cases h.1
   refine ⟨hg.os.trans hSt.os,hg.tape.trans hSt.tape,hg.output.trans hSt.output,Ar hSt.size hg.size,fun k hlt hno=>?_,fun b p hb=>?_,fun f hf=>?_,fun f hf b hb=>?_,?_⟩
   ·have hlt':=A1 hlt hSt.size;rw [hg.block k hlt' (by rw [hvn];simp)];exact hSt.frame k hlt hno
   ·obtain ⟨cs,t,fr,e1,e2⟩:=hSt.agree b p hb;exact ⟨cs,t,fr,(hg.block b (hSt.agree.lt hb) (by rw [hvn];simp)).trans e1,e2⟩
   ·rcases X3.1 hf with rfl | hf
    ·exact ⟨_,_,hown,fun g hgb=>by rw [hv'] at hgb;cases hgb⟩
    ·refine Ent.kept (hSt.ents f (X0 _ hf)) fun b hb=>⟨hg.block b (hHlt f hf b hb).1 (by rw [hvn];simp),rfl⟩
   ·rcases X3.1 hf with rfl | hf
    ·have hb':v'.ownBlock=some b:=hb;rw [hv'] at hb';cases hb'
    ·exact hSt.mine f (X0 _ hf) b hb
   ·refine .cons (fun f _ b hb=>?_) hapart.2;have hb':v'.ownBlock=some b:=hb;rw [hv'] at hb';cases hb'
 | some g =>
  have hMg:M g=none∨M g=some xs:=by
   rcases hat with h | h
   ·exact .inr (hMx g (by rw [← h];exact hv'))
   ·rw [hv'] at h;cases h.1;exact .inl hnone
  have hle:M.le (M.put g (xs++news)):=fun b p hb=>by
   by_cases e:b=g
   ·subst e;rcases hMg with h | h
    ·rw [h] at hb;cases hb
    ·rw [h] at hb;cases hb;exact ⟨_,Mm.put_same _ _ _,List.prefix_append _ _⟩
   ·exact ⟨p,by rw [Mm.put_other _ _ e];exact hb,Bv _⟩
  have hfar:∀ b,b<w.heap.size→some b≠v.ownBlock→b≠g:=fun b hlt hne he=>by
   subst he;rcases hat with h | h
   ·exact hne (by rw [← h];exact hv'.symm)
   ·rw [hv'] at h;cases h.1;omega
  have hgB:X g∨w0.heap.size≤g:=by
   rcases hat with h | h
   ·exact hSt.mine _ X2 g (by rw [← hv',h];rfl)
   ·rw [hv'] at h;cases h.1;exact .inr hSt.size
  refine ⟨M.put g (xs++news),⟨hle,fun b hb hx=>Mm.put_other _ _ (fun e=>by subst e;rcases hgB with h | h;exact hx h;omega)⟩,?_,?_⟩
  ·obtain ⟨hxl,h | ⟨g',cap,cur,rfl,hgb,hh,hcap,hmx,hsz,htk⟩⟩:=hown
   ·obtain ⟨rfl,_⟩:=h;cases hv'
   ·cases hv';have hlen1:xs.length=l1.length*Rep.k α := hxs.1;have hcl1:∀ ws∈css,ws.length=Rep.k α := by
     intro ws hws;obtain ⟨j,hj⟩:=Au hws;have hjl:j<l2.length:=by rw [← hcl];exact (Xz.1 hj).1
     exact Xx (hcs j ws l2[j] hj (by simp))
    obtain ⟨a,cp,hve,_,_,_,css1,hc1,hc2,hc3⟩:=qhu h1;have hfl1:xs=css1.flatten:=by
     cases hl:l1 with
     | nil=>rw [hl] at hc1 hlen1;simp at hc1 hlen1;subst hc1;simpa using hlen1
     | cons x t =>
      obtain ⟨b,off,p,rfl,hb,hle2,hfl⟩:=hc3 (by rw [hl];simp);have hob:v.ownBlock=some b:=by rw [hve];rfl
      have:=hMx b hob;rw [hb] at this;cases this;have ho:off=0:=by
       obtain ⟨_,h | ⟨g2,cap2,cur2,he2,_⟩⟩:=hxs
       ·rw [hve] at h;cases h.1
       ·rw [hve] at he2;cases he2;rfl
      subst ho;rw [hfl,← hlen1,qv5]
    refine (show (Value.slice (some ⟨g',0,none⟩) (l1.length+m) cap)= .slice (some ⟨g',0,none⟩) (l1++l2).length cap from by rw [X5,hm]) ▸ qo3 (vs:=css1++css) (l:=l1++l2) ?_ (by simp [hc1,hcl]) (by rw [X5,hm];exact hcap) (by rw [X5,hm];exact hby) ?_
    ·rw [Mm.put_same,hfl1,hn,List.flatten_append]
    ·intro i ws x hws hx;by_cases hi:i<l1.length
     ·rw [An E8] at hws;rw [An hi] at hx;exact Bo hle (hc2 i ws x hws hx)
     ·rw [Bb E8,hc1] at hws;rw [Bb E8] at hx;exact Bo hle (hcs _ ws x hws hx)
  ·refine ⟨hg.os.trans hSt.os,hg.tape.trans hSt.tape,hg.output.trans hSt.output,Ar hSt.size hg.size,fun k hlt hno=>?_,fun b p hb=>?_,fun f hf=>?_,fun f hf b hb=>?_,?_⟩
   ·have hlt':=A1 hlt hSt.size;have hvk:some k≠v.ownBlock:=fun h=>by
     rcases hSt.mine _ X2 k h.symm with hx | hx
     ·exact hno hx
     ·omega
    rw [hg.block k hlt' hvk];exact hSt.frame k hlt hno
   ·by_cases e:b=g
    ·subst e;rw [Mm.put_same] at hb;cases hb;obtain ⟨hxl,h | ⟨g',cap,cur,rfl,hgb,hh,hcap,hmx,hsz,htk⟩⟩:=hown
     ·obtain ⟨rfl,_⟩:=h;cases hv'
     ·cases hv';exact ⟨cur,_,_,hh,by rw [← htk];exact D8 _ _⟩
    ·rw [Mm.put_other _ _ e] at hb;obtain ⟨cs,t,fr,e1,e2⟩:=hSt.agree b p hb;by_cases hbv:some b=v.ownBlock
     ·have hx:=hMx b hbv.symm;rw [hb] at hx;cases hx;obtain ⟨hl2,h2 | ⟨g2,cap2,cur2,rfl,hb2,hh2,hcap2,hmx2,hsz2,htk2⟩⟩:=hxs
      ·obtain ⟨rfl,_⟩:=h2;cases hbv
      ·cases hbv;rcases hat with h | h
       ·rw [hv'] at h;cases h;exact absurd rfl e
       ·exact ⟨cs,t,fr,(h.2 _ (hSt.agree.lt hb)).trans e1,e2⟩
     ·exact ⟨cs,t,fr,(hg.block b (hSt.agree.lt hb) hbv).trans e1,e2⟩
   ·rcases X3.1 hf with rfl | hf
    ·exact ⟨_,_,hown,fun g' hgb=>by rw [hv'] at hgb;cases hgb;exact Mm.put_same _ _ _⟩
    ·have hne:=hHlt f hf;exact Ent.kept (hSt.ents f (X0 _ hf)) fun b hb=>⟨hg.block b (hne b hb).1 (fun h=>(hne b hb).2 h.symm),Mm.put_other _ _ (hfar b (hne b hb).1 (fun h=>(hne b hb).2 h.symm))⟩
   ·rcases X3.1 hf with rfl | hf
    ·have hb':v'.ownBlock=some b:=hb;rw [hv'] at hb';cases hb';exact hgB
    ·exact hSt.mine f (X0 _ hf) b hb
   ·refine .cons (fun f hf b hb hb'=>?_) hapart.2;have h2:v'.ownBlock=some b:=hb;rw [hv'] at h2;cases h2;exact hfar g (hHlt f hf g hb').1 (fun h=>(hHlt f hf g hb').2 h.symm) rfl
theorem qwa {base:Nat} {t ty e:TypeId} {i:TypeInfo} {z:Value} {size bytes:Nat} (ht:P.underlying t=some (.slice e)) (hi:P.info? e=some i) (hz:i.zero=some z)
 (hsize:i.size=size) (hby:i.bytes=bytes) (hzs:z.cells.size=size) (hsz:0<size)
 {v:Value} {n:Nat} {xs:List Value} (hown:w.ownsRow base e size v n xs)
 {a:Addr} {m c:Nat} {news:List Value} (hl:news.length=m*size) (hnews:∀ (j:Nat) u,news[j]? = some u→w.cell? (a.add j)=some u) (h1:∀ u∈news,u.oneCell'=true)
 (h63:n+m≤maxLen) (hbytes:(n+m)*bytes≤140737488355328) (hbase:base≤w.heap.size) :
 ∃ v' w',(Builtin.append_ #[t,t] ty #[v,.slice (some a) m c]).run P w= .ok v' w'∧w'.ownsRow base e size v' (n+m) (xs++news)∧w.grownBy w' v.ownBlock ∧
  (v'.ownBlock=v.ownBlock∨(v'.ownBlock=some w.heap.size∧∀ k,k<w.heap.size→w'.heap[k]? = w.heap[k]?)):=by
 obtain ⟨v',w',hr,ho,hg,_,hat⟩:=run_append_own_at (P:=P) w base t ty e i z size bytes ht hi hz hsize hby hzs hsz v n xs hown a m c news hl hnews h1 h63 hbytes hbase;refine ⟨v',w',hr,ho,hg,?_⟩;rcases hat with h | h
 ·exact .inl h
 ·obtain ⟨hxl,⟨rfl,rfl⟩ | ⟨g,cap,cur,rfl,hbg,hh,hnc,hcm,hcs,htake⟩⟩:=hown
  ·exact .inr ⟨h,fun k hk=>hg.block k hk (by simp [Value.ownBlock])⟩
  ·subst hsize;subst hby;by_cases hroom:n+m≤cap
   ·have hfit:n*i.size+news.length≤cur.size:=by rw [hl,hcs,← Aq];exact Af _ hroom
    have hr2:=run_append_room (P:=P) w t ty e i ht hi g n cap cur hh a m c news hl hnews h1 hroom hfit;rw [hr2] at hr;cases hr;exact .inl rfl
   ·have hown':w.ownsRow base e i.size (.slice (some ⟨g,0,none⟩) n cap) n xs:=⟨hxl,.inr ⟨g,cap,cur,rfl,hbg,hh,hnc,hcm,hcs,htake⟩⟩;have holds:∀ (j:Nat) u,xs[j]? = some u→w.cell? ((⟨g,0,none⟩:Addr).add j)=some u:=hown'.cells (g:=g) rfl;have hsmall:n+m≤9223372036854775807:=by simp only [maxLen] at h63;omega
    have hr2:=run_append_grow (P:=P) w t ty e i z ht hi hz ⟨g,0,none⟩ n cap xs hxl holds a m c news hl hnews E8 E8 (growslice_fits E8 hbytes);rw [hr2] at hr;cases hr;exact .inr ⟨rfl,fun k hk=>Below.heap_alloc w.drew _ k hk⟩
def TP (P:Program) (t e:TypeId) (k bytes:Nat):Prop:=P.underlying t=some (.slice e)∧∃ i z,P.info? e=some i∧i.zero=some z∧i.size=k∧i.bytes=bytes∧z.cells.size=k∧0<k∧0<bytes
theorem qxu {α : Type} [Rep α] {j:Nat} {t ty e:TypeId} {v v2:Value} {l1 l2:List α} (ht:TP P t e (Rep.k α) (Rep.bytes α)) (hSt:St w0 X M H w) (hj:H[j]? = some (.row v e (Rep.k α)))
 (h1:repL M v l1) (h2:repL M v2 l2) (hb:(l1.length+l2.length)*Rep.bytes α ≤ 140737488351232) :
 ∃ v' w' M',(Builtin.append_ #[t,t] ty #[v,v2]).run P w= .ok v' w'∧Mm.ext w0.heap.size X M M'∧repL M' v' (l1++l2)∧St w0 X M' (H.set j (.row v' e (Rep.k α))) w':=by
 obtain ⟨hu,i,z,hi,hz,hsize,hby,hzs,hk,hbp⟩:=ht;have hF:=hSt.perm (qf1 hj);obtain ⟨n,xs,hown,hM⟩:=hF.ents _ X2;obtain ⟨a1,cap1,hv1,_⟩:=qv8 h1;have hn:n=l1.length:=by
  obtain ⟨_,h | ⟨g,cap,cur,h,_⟩⟩:=hown
  ·rw [hv1] at h;obtain ⟨h,h0⟩:=h;simp only [Value.slice.injEq] at h;omega
  ·rw [hv1] at h;simp only [Value.slice.injEq] at h;exact h.2.1.symm
 subst hn;obtain ⟨a2,cap2,hv2,hc2,hnil,hb2,css,hcl,hcs,hne⟩:=qhu h2;have hcsl:∀ ws∈css,ws.length=Rep.k α := by
  intro ws hws;obtain ⟨q,hq⟩:=Au hws;have hql:q<l2.length:=by rw [← hcl];exact (Xz.1 hq).1
  exact Xx (hcs q ws l2[q] hq (by simp))
 cases a2 with
 | none =>
  have:cap2=0:=hnil rfl;subst this;have e0:l2=[]:=Av.1 E8;subst e0;subst hv2;have hr:=run_append_owned_none (P:=P) (w:=w) 0 t ty e i (Rep.k α) hu hi v _ xs hown;exact ⟨v,w,M,hr,Mm.ext.refl _ _ _,by simpa using h1,by
   have:=hF.perm (qht (.row v e (Rep.k α)) hj)
   exact this⟩
 | some ad =>
  subst hv2;have hlen:css.flatten.length=l2.length*Rep.k α := by
   by_cases hl:l2=[]
   ·subst hl;simp at hcl;subst hcl;simp
   ·obtain ⟨b,off,p,_,_,hle,hfl⟩:=hne hl;rw [hfl,qpl hle]
  have hnews:∀ (j:Nat) u,css.flatten[j]? = some u→w.cell? (ad.add j)=some u:=by
   intro q u hq;have hl:l2≠[]:=by rintro rfl;simp at hcl;subst hcl;simp at hq
   obtain ⟨b,off,p,he,hMb,hle,hfl⟩:=hne hl;cases he;rw [hfl] at hq;rw [Addr.add_mid];have hql:q<l2.length*Rep.k α := by
    rw [← hlen,hfl];exact (Xz.1 hq).1
   rw [qg1 _ _ _ _ hql] at hq;exact qtm hSt.agree hMb hq
  have hone:∀ u∈css.flatten,u.oneCell'=true:=by
   intro u hu;obtain ⟨ws,hws,huw⟩:=List.mem_flatten.1 hu;obtain ⟨q,hq⟩:=Au hws;have hql:q<l2.length:=by rw [← hcl];exact (Xz.1 hq).1
   exact Rep.one (hcs q ws l2[q] hq (by simp)) u huw
  have hle1:l1.length+l2.length≤(l1.length+l2.length)*Rep.bytes α := B2 _ hbp;obtain ⟨v',w',hr,ho,hg,hat⟩:=qwa (P:=P) (ty:=ty) hu hi hz hsize hby hzs hk hown (c:=cap2) hlen hnews hone (by unfold maxLen;omega) E8 (Ag _);obtain ⟨M',hm,hrep,hst⟩:=hF.append h1 hk hown hM rfl hcl hcs rfl ho hg hat hb;exact ⟨v',w',M',hr,hm,hrep,hst.perm (qht _ hj)⟩
theorem zgk {α : Type} [Rep α] {j:Nat} {t e:TypeId} {x y:Operand} {v v2:Value} {l1 l2:List α} (ht:TP P t e (Rep.k α) (Rep.bytes α)) (hSt:St w0 X M H w) (hj:H[j]? = some (.row v e (Rep.k α)))
 (hx:evT T x=v) (hy:evT T y=v2) (h1:repL M v l1) (h2:repL M v2 l2) (hb:(l1.length+l2.length)*Rep.bytes α ≤ 140737488351232)
 (k:∀ v' M' w',Mm.ext w0.heap.size X M M'→repL M' v' (l1++l2)→St w0 X M' (H.set j (.row v' e (Rep.k α))) w'→K (qrd T dst v') w'):OW P n Q ⟨dst,.call ⟨.builtin .append,#[x,y],#[t,t]⟩,ty,pos,af,g⟩ T w K:=by
 obtain ⟨v',w',M',hr,hm,hrep,hst⟩:=qxu (P:=P) (ty:=ty) ht hSt hj h1 h2 hb;refine OW.of_run (v:=v') (w':=w') ?_ (k v' M' w' hm hrep hst);simp [execOp,resolve,invoke,builtin,hx,hy,hr]
theorem St.nilRow (hSt:St w0 X M H w) (e:TypeId) (k:Nat):St w0 X M (.row (.slice none 0 0) e k::H) w:=by
 refine ⟨hSt.os,hSt.tape,hSt.output,hSt.size,hSt.frame,hSt.agree,fun f hf=>?_,fun f hf b hb=>?_,.cons (fun f _ b hb=>by cases hb) hSt.apart⟩;rcases X3.1 hf with rfl | hf
 ·exact ⟨0,[],⟨by simp,.inl ⟨rfl,rfl⟩⟩,fun g hg=>by cases hg⟩
 ·exact hSt.ents f hf
 ·rcases X3.1 hf with rfl | hf
  ·cases hb
  ·exact hSt.mine f hf b hb
end
theorem qxv {α β : Type} {o:Option α} {f : α → Option β} {r : β} (h:o.bind f=some r):∃ x,o=some x∧f x=some r:=Option.bind_eq_some_iff.1 h
theorem q88 {α : Type} {c:Bool} {a b:Option α} {r : α} (h:(bif c then a else b)=some r) (hc:c=true):a=some r:=by subst hc;exact h
theorem q89 {α : Type} {c:Bool} {a b:Option α} {r : α} (h:(bif c then a else b)=some r) (hc:c=false):b=some r:=by subst hc;exact h
def app {α : Type} [Rep α] (a b:List α):Option (List α):=if (a.length+b.length)*Rep.bytes α ≤ 140737488351232 then some (a++b) else none
theorem qxw {α : Type} [Rep α] {a b c:List α} (h:app a b=some c):(a.length+b.length)*Rep.bytes α ≤ 140737488351232∧c=a++b:=by
 unfold app at h;split at h
 ·rename_i hk;exact ⟨hk,(Du h).symm⟩
 ·cases h
def cat (a b:ByteArray):Option ByteArray:=if a.size+b.size≤140737488351232 then some (a++b) else none
theorem q9a {a b c:ByteArray} (h:cat a b=some c):a.size+b.size≤140737488351232∧c=a++b:=by
 unfold cat at h;split at h
 ·rename_i hk;exact ⟨hk,(Du h).symm⟩
 ·cases h
def qr4 (s:ByteArray) (lo hi:Option Int):Option ByteArray:=(qg2 s.size lo hi).map fun p=>s.extract p.1 p.2
def qwb {α : Type} (l:List α) (lo hi:Option Int):Option (List α):=(qg2 l.length lo hi).map fun p=>(l.take p.2).drop p.1
def q8v (P:Program) (fn:Func) (R:Ending→World→Prop):Exit→Tm→World→Prop:=fun e T w =>
 match e with
 | .normal | .ret=>∀ tmps:Array Value,(∀ k,tmps.getD k undef=T k)→∃ v,(results fn tmps).run P w= .ok v w∧R (.returned v) w
 | _=>False
theorem q6p (vs:List Value) (m k:Nat):(vs.toArray++Array.replicate m undef).getD k undef=vs.getD k undef:=by
 rw [Ba,As,Array.getElem?_append];by_cases h:k<vs.length
 ·rw [if_pos (by simpa using h)];simp
 ·rw [if_neg (by simpa using h),Array.getElem?_replicate,Bl E8];split<;>rfl
theorem za2 {P:Program} {f:FuncId} {fn:Func} {c:Code} {vs:List Value} {w:World} {R:Ending→World→Prop} (hf:P.funcs[f]? = some fn) (hb:fn.body=some c) (n:Nat) (hn:fn.ntmps=n) (hv:Nat.ble vs.length n=true) (hok:qg0 n c=true)
 (h:∀ T:Tm,(∀ k,T k=vs.getD k undef)→W P n c (q8v P fn R) T w):Calls P f vs.toArray w R:=by
 subst hn;refine q4m hf hb (by simpa using Dl hv) hok fun T hT=>?_;refine q6b (fun e T w hq=>?_) (h T fun k=>(hT k).trans (q6p _ _ _));cases e<;>exact hq
section
variable {P:Program} {fn:Func} {R:Ending→World→Prop} {T:Tm} {w w0:World} {X:Nat→Prop} {M:Mm} {H:List Ent}
theorem q9b (h:q8v P fn R .ret T w):q8v P fn R .normal T w:=h
def zcm (tmps:Array Value):ResultVar→Sem Value
 | .tmp t=>pure (tmps.getD t undef)
 | .cell a t=>do loadVar t (← asAddr (tmps.getD a undef))
def q6q (P:Program) (w:World) (tmps:Array Value):List ResultVar→List Value→Prop
 | [],[]=>True
 | r::rs,v::vs=>(zcm tmps r).run P w= .ok v w∧q6q P w tmps rs vs
 | _,_=>False
def zde:List Value→Value
 | [v]=>v
 | vs => .tuple vs.toArray
theorem qwc {tmps:Array Value}:∀ {rs:List ResultVar} {vs:List Value},q6q P w tmps rs vs→(rs.mapM (zcm tmps)).run P w= .ok vs w
 | [],[],_=>by simp
 | r::rs,v::vs,h=>by
  obtain ⟨h1,h2⟩:=h;have:=qwc h2;simp only [List.mapM_cons,X6,h1,Result.andThen,this];rfl
 | [],_::_,h=>h.elim
 | _::_,[],h=>h.elim
theorem qf2 {tmps:Array Value} {rs:List ResultVar} {vs:List Value} (hr:fn.results=rs.toArray) (h:q6q P w tmps rs vs):(results fn tmps).run P w= .ok (zde vs) w:=by
 have hm:(fn.results.mapM (zcm tmps)).run P w= .ok vs.toArray w:=by
  rw [hr,El,Sem.run_map,qwc h];rfl
 have e:results fn tmps=(do let vs ← fn.results.mapM (zcm tmps);pure (if h:vs.size=1 then vs[0] else .tuple vs)):=by
  unfold results;congr 1
 rw [e,X6,hm];rcases vs with _ | ⟨v,_ | ⟨u,t⟩⟩<;>simp [zde,Result.andThen]
theorem q1m {t:TypeId} {v:Value} {b:Nat} {cs:List Value} {t':TypeId} (hv:v= .pointer (some ⟨b,0,none⟩)) (ht:TA P t cs.length) (hSt:St w0 X M H w) (j:Nat) (hj:H[j]? = some (.box b cs t')):(do loadVar t (← asAddr v):Sem Value).run P w= .ok (.agg cs.toArray) w:=by
 subst hv;obtain ⟨d,h1,h2,h5⟩:=ht;have hbx:=(hSt.ents _ (X7 hj)).1;have:=run_loadVar_mid (P:=P) w b 0 t cs d (by have:=qv6 (n:=cs.length) (off:=0) hbx (Bv _);rwa [qv5] at this) h1 h2 h5;simp [asAddr,this]
theorem qwd {tmps:Array Value} (hT:∀ k,tmps.getD k undef=T k) {r:Nat} {v:Value} (h:T r=v):(zcm tmps (.tmp r)).run P w= .ok v w:=by
 show (pure (tmps.getD r undef):Sem Value).run P w=_;rw [hT,h];simp
theorem q6r {tmps:Array Value} (hT:∀ k,tmps.getD k undef=T k) {r b t j:Nat} {cs:List Value} {t':TypeId} (h1:T r= .pointer (some ⟨b,0,none⟩)) (ht:TA P t cs.length) (hSt:St w0 X M H w) (hj:H[j]? = some (.box b cs t')):(zcm tmps (.cell r t)).run P w= .ok (.agg cs.toArray) w :=
 q1m (P:=P) ((hT r).trans h1) ht hSt j hj
theorem R_t1 {r:Nat} {v:Value} (hr:fn.results = #[.tmp r]) (h1:T r=v) (h:R (.returned v) w):q8v P fn R .ret T w :=
 fun _ hT=>⟨v,qf2 (rs:=[.tmp r]) (vs:=[v]) hr ⟨qwd hT h1,trivial⟩,h⟩
theorem R_t2 {r s:Nat} {v u:Value} (hr:fn.results = #[.tmp r,.tmp s]) (h1:T r=v) (h2:T s=u) (h:R (.returned (.tuple #[v,u])) w):q8v P fn R .ret T w :=
 fun _ hT=>⟨_,qf2 (rs:=[.tmp r,.tmp s]) (vs:=[v,u]) hr ⟨qwd hT h1,qwd hT h2,trivial⟩,h⟩
theorem zcn (hr:fn.results = #[]) (h:R (.returned (.tuple #[])) w):q8v P fn R .ret T w :=
 fun _ _=>⟨_,qf2 (rs:=[]) (vs:=[]) hr trivial,h⟩
section
variable {b t j:Nat} {cs:List Value} {t':TypeId} {r:Nat}
theorem R_c (hr:fn.results = #[.cell r t]) (h1:T r= .pointer (some ⟨b,0,none⟩)) (ht:TA P t cs.length) (hSt:St w0 X M H w) (hj:H[j]? = some (.box b cs t')) (h:R (.returned (.agg cs.toArray)) w):q8v P fn R .ret T w :=
 fun _ hT=>⟨_,qf2 (rs:=[.cell r t]) (vs:=[.agg cs.toArray]) hr ⟨q6r hT h1 ht hSt hj,trivial⟩,h⟩
theorem R_ct {s:Nat} {u:Value} (hr:fn.results = #[.cell r t,.tmp s]) (h1:T r= .pointer (some ⟨b,0,none⟩)) (h2:T s=u) (ht:TA P t cs.length) (hSt:St w0 X M H w) (hj:H[j]? = some (.box b cs t')) (h:R (.returned (.tuple #[.agg cs.toArray,u])) w):q8v P fn R .ret T w :=
 fun _ hT=>⟨_,qf2 (rs:=[.cell r t,.tmp s]) (vs:=[.agg cs.toArray,u]) hr ⟨q6r hT h1 ht hSt hj,qwd hT h2,trivial⟩,h⟩
theorem zgl {s q:Nat} {u x:Value} (hr:fn.results = #[.cell r t,.tmp s,.tmp q]) (h1:T r= .pointer (some ⟨b,0,none⟩)) (h2:T s=u) (h3:T q=x) (ht:TA P t cs.length) (hSt:St w0 X M H w) (hj:H[j]? = some (.box b cs t')) (h:R (.returned (.tuple #[.agg cs.toArray,u,x])) w):q8v P fn R .ret T w :=
 fun _ hT=>⟨_,qf2 (rs:=[.cell r t,.tmp s,.tmp q]) (vs:=[.agg cs.toArray,u,x]) hr ⟨q6r hT h1 ht hSt hj,qwd hT h2,qwd hT h3,trivial⟩,h⟩
end
def Gives (M:Mm) (w:World) (rv:Mm→Value→Prop):Ending→World→Prop:=fun e w' =>
 ∃ v M',e= .returned v∧rv M' v∧M.new M' w.heap.size∧Agree M' w'∧Kept w w'
theorem Gives.mk {rv:Mm→Value→Prop} {v:Value} {M':Mm} {w':World} (hSt:St w0 noX M' H w') (he:Mm.ext w0.heap.size noX M M') (hv:rv M' v):Gives M w0 rv (.returned v) w' :=
 ⟨v,M',rfl,hv,he.new,hSt.agree,hSt.kept⟩
theorem za3 {n:Nat} {Q:Exit→Tm→World→Prop} {K:Tm→World→Prop} {dst:Option Tmp} {ty:TypeId} {pos:String} {af:Array Edge} {g:Option (Nat × Bool)} {f:FuncId} {fn:Func} {c:Code} {args:List Operand} {ats:Array TypeId} {vs:List Value} {rv:Mm→Value→Prop} (hf:P.funcs[f]? = some fn) (hname:(fn.name == "runtime.NumGoroutine")=false) (hb:fn.body=some c)
 (ha:args.map (evT T)=vs) (hSt:St w0 X M H w) (hc:Calls P f vs.toArray w (Gives M w rv)) (hk:∀ v M' w',Mm.ext w0.heap.size X M M'→rv M' v→St w0 X M' H w'→K (qrd T dst v) w'):OW P n Q ⟨dst,.call ⟨.value (.func f),args.toArray,ats⟩,ty,pos,af,g⟩ T w K :=
 q3n hf hname hb ha hc fun e w' ⟨v,M',he,hv,hn,hA,hK⟩=>⟨v,he,hk v M' w' (hSt.ext hn) hv (hSt.call hK hn hA)⟩
end
abbrev B3 := @Vector.getElem_setIfInBounds
abbrev Dw := @Nat.lt_or_gt_of_ne
abbrev Ef := @List.drop_left
abbrev D9 := @List.take_length
abbrev E3 := @Nat.lt_irrefl
abbrev Bc := @List.mem_append_left
abbrev Bp := @List.pairwise_append
abbrev Bu := @List.mem_append_right
abbrev Ad := @List.mem_append
abbrev Dm := @Bool.not_eq_true'
abbrev Eo := @Option.isSome_iff_exists
theorem qhp {cs:List Value} {u:Value} {k:Nat} (hl:cs.length=k) (h:u∈cs):u∈sl cs 0 k:=by subst hl;rwa [qv5]
section
variable {α : Type} [Rep α] {M:Mm} {cs ws:List Value}
theorem q9c {d : α} {k:Nat} (hk:Rep.k α = k) (h:rep M cs d):rep M (sl cs 0 k) d:=by
 have:=Xx h;rw [hk] at this;rw [← this,qv5];exact h
theorem q6s {d : α} {k:Nat} (hk:cs.length=k) (h:rep M (sl cs 0 k) d):rep M cs d:=by
 rw [← hk,qv5] at h;exact h
theorem q9d {x : α} {q k:Nat} (hk:Rep.k α = k) (hx:rep M ws x) (hl:q+k≤cs.length):rep M (sl (pt cs q ws) q k) x:=by
 have:=Xx hx;rw [hk] at this;rw [qre E8 this];exact hx
theorem zah {x y : α} (h:rep M cs x) (e:some x=some y):rep M cs y:=by cases e;exact h
theorem vp {n k N o:Nat} {v:Vector α n} {j:Int} {x : α} (hk:Rep.k α = k) (hN:n*k=N) (h:rep M (sl cs o N) v) (hj:qan v j=some x):rep M (sl cs (o+j.toNat*k) k) x:=by
 subst hk;subst hN;obtain ⟨h0,h1,h2⟩:=q6h h hj;have hle:=Af (Rep.k α) (show j.toNat+1≤n by omega);rw [Aq,A5] at hle;rwa [qxr _ hle] at h2
theorem vs {n k N o q:Nat} {v v':Vector α n} {j:Int} {x : α} (hk:Rep.k α = k) (hN:n*k=N) (h:rep M (sl cs o N) v) (hx:rep M (sl (pt cs q ws) (o+j.toNat*k) k) x) (hj:qc1 v j x=some v')
 (h1:o+j.toNat*k≤q) (h2:q+ws.length≤o+j.toNat*k+k) (hl:o+N≤cs.length):rep M (sl (pt cs q ws) o N) v':=by
 subst hk;subst hN;obtain ⟨h0,h3,rfl⟩:=qza hj;obtain ⟨e1,e2,e3⟩:=h;have hle:=Af (Rep.k α) (show j.toNat+1≤n by omega);rw [Aq,A5] at hle;refine ⟨qpl (by rw [qjt E8];exact hl),e2,fun i hi=>?_⟩;have hi2:=Af (Rep.k α) (show i+1≤n by omega);rw [Aq,A5] at hi2;rw [B3,qxr _ hi2];by_cases e:j.toNat=i
 ·subst e;rw [if_pos rfl];exact hx
 ·have e4:=e3 i hi;rw [qxr _ hi2] at e4;rw [if_neg e,qij E8]
  ·exact e4
  ·rcases Dw e with hlt | hlt
   ·right;have:=Af (Rep.k α) (show j.toNat+1≤i by omega);rw [Aq,A5] at this;omega
   ·left;have:=Af (Rep.k α) (show i+1≤j.toNat by omega);rw [Aq,A5] at this;omega
theorem zdf {place:Nat→Option (Nat × Nat)}:qay place cs []=some cs:=rfl
theorem za4 {place:Nat→Option (Nat × Nat)} {d : α} {i off size:Nat} {v:Value} {rest:List (Nat × Value)} {ds:List Value} (h:rep M cs d) (hp:place i=some (off,size)) (hc:v.cells.toList=ws) (hl:ws.length=size) (hle:off+size≤Rep.k α)
 (hr:qay place (pt cs off ws) rest=some ds):qay place cs ((i,v)::rest)=some ds:=by
 simp only [qay,hp];have hsz:v.cells.size=size:=by rw [← hl,← hc];simp
 rw [if_pos ⟨hsz,by rw [Xx h];exact hle⟩,hc];exact hr
end
theorem q4p {α : Type} [Rep α] {M:Mm} {v:Value} {l:List α} (h:repL M v l):v.cells.toList=[v]:=by
 obtain ⟨a,cap,rfl,_⟩:=h;rfl
theorem q9e {α : Type} [Rep α] {M:Mm} {v:Value} {l:List α} (h:repL M v l):rep M [v] l:=⟨v,rfl,h⟩
class Zr (α : Type) [Rep α] where
 zd : α
 zc:List Value
 zr:∀ {M},rep M zc zd
instance:Zr Int:=⟨0,[.int .i64 0],rfl⟩
instance:Zr Bool:=⟨false,[.bool false],rfl⟩
instance:Zr ByteArray:=⟨⟨#[]⟩,[.string ⟨#[]⟩],rfl,by decide⟩
instance {α : Type} [Rep α]:Zr (List α):=⟨[],[.slice none 0 0],_,rfl,qs2 _⟩
theorem qn8 {zs:List Value} {k:Nat} (hk:zs.length=k):∀ (n i:Nat),i<n→sl (List.replicate n zs).flatten (i*k) k=zs:=by
 intro n
 induction n with
 | zero=>intro i h;omega
 | succ n ih =>
  intro i hi;simp only [List.replicate_succ,Bq];cases i with
  | zero=>subst hk;simp [sl]
  | succ i =>
   have h2:=ih i E8;unfold sl at h2 ⊢;rw [Aq,A5,Ed,← Be,← hk,Ef,hk];exact h2
theorem qe1 {zs:List Value}:∀ n,(List.replicate n zs).flatten.length=n*zs.length
 | 0=>by simp
 | n+1=>by
  rw [List.replicate_succ,List.flatten_cons,List.length_append,qe1 n,Nat.add_mul,Nat.one_mul,Nat.add_comm]
class Pos (α : Type) [Rep α]:Prop where
 pos:0<Rep.k α
instance:Pos Int:=⟨Nat.one_pos⟩
instance:Pos Bool:=⟨Nat.one_pos⟩
instance:Pos ByteArray:=⟨Nat.one_pos⟩
instance {α : Type} [Rep α]:Pos (List α):=⟨Nat.one_pos⟩
instance {α : Type} [Rep α] [Zr α] [Pos α] {n:Nat}:Zr (Vector α n) where
 zd:=Vector.replicate n Zr.zd
 zc:=(List.replicate n (Zr.zc α)).flatten
 zr:=by
  intro M;have hz:=Rep.len (Zr.zr (α := α) (M:=M));refine ⟨?_,.inl Pos.pos,fun i hi=>?_⟩
  ·rw [qe1,hz]
  ·rw [qn8 hz n i hi,Vector.getElem_replicate];exact Zr.zr
theorem qkq {P:Program} {t:TypeId} {zs:List Value} (h:((P.info? t).bind (·.zero)).map (·.cells.toList)=some zs):TZ P t zs:=by
 cases hi:P.info? t with
 | none=>rw [hi] at h;cases h
 | some i =>
  rw [hi] at h;cases hz:i.zero with
  | none=>simp [hz] at h
  | some z=>simp [hz] at h;exact ⟨i,z,hi,hz,h⟩
theorem qzd {P:Program} {t e:TypeId} {k b:Nat} (hu:P.underlying t=some (.slice e)) (h:(P.info? e).map (fun i=>(i.zero.map (·.cells.size),i.size,i.bytes))=some (some k,k,b)) (hk:0<k) (hb:0<b):TP P t e k b:=by
 cases hi:P.info? e with
 | none=>rw [hi] at h;cases h
 | some i =>
  rw [hi] at h;simp only [Ac,Option.some.injEq,Prod.mk.injEq] at h;obtain ⟨h1,h2,h3⟩:=h;cases hz:i.zero with
  | none=>simp [hz] at h1
  | some z=>simp [hz] at h1;exact ⟨hu,i,z,hi,hz,h2,h3,h1,hk,hb⟩
theorem qxx {P:Program} {t e:TypeId} {k b:Nat} (h:TP P t e k b):TL P t k:=by
 obtain ⟨hu,i,z,hi,hz,h2,h3,h1,hk,hb⟩:=h;exact ⟨e,i,z,hu,hi,hz,h1,h2,hk⟩
def q1n (P:Program) (l:List Field):List (Nat × Option Nat):=l.map fun f=>(f.offset,(P.info? f.type).map (·.size))
theorem qsw {P:Program} {t:TypeId} {zs:List Value} {fs:Array Field} {pl:List (Nat × Nat)} (hu:P.underlying t=some (.struct fs)) (hz:TZ P t zs) (h:q1n P fs.toList=pl.map (fun p=>(p.1,some p.2))):TB P t zs pl:=by
 obtain ⟨i,z,h1,h2,h3⟩:=hz;refine ⟨fs,i,z,hu,h1,h2,h3,?_,?_⟩
 ·have:=congrArg (List.map Prod.fst) h;simpa [q1n,List.map_map,Function.comp_def] using this
 ·intro j f hj;have:=congrArg (fun l:List (Nat × Option Nat)=>l[j]?) h;simp only [q1n,Aw,hj,Ac] at this;cases hp:pl[j]? with
  | none=>rw [hp] at this;cases this
  | some p =>
   rw [hp] at this;simp only [Ac,Option.some.injEq,Prod.mk.injEq] at this;rw [this.2];rfl
section
variable {P:Program} {n:Nat} {Q:Exit→Tm→World→Prop} {T:Tm} {w w0:World} {X:Nat→Prop} {M:Mm} {H:List Ent} {ops:Array Oper}
theorem q6t {next:Tm→World→Prop} (h:next T w):qvm next Q .normal T w:=h
theorem zdg {id:Nat} (h:Q .normal T w):zcl id Q .normal T w:=h
theorem za5 {next:Tm→World→Prop} {id:Nat} (h:Q (.exit id) T w):qvm next Q (.exit id) T w:=h
theorem q3p {id id':Nat} (hn:Nat.beq id' id=false) (h:Q (.exit id') T w):zcl id Q (.exit id') T w:=by show (bif Nat.beq id' id then _ else _);rw [hn];exact h
theorem zdh {id:Nat} (h:Q .normal T w):zcl id Q (.exit id) T w:=by show (bif Nat.beq id id then _ else _);rw [Nat.beq_refl];exact h
theorem zgm {next:Tm→World→Prop} (h:Q .ret T w):qvm next Q .ret T w:=h
theorem rt_blk {id:Nat} (h:Q .ret T w):zcl id Q .ret T w:=h
theorem zdi {x y:Code} (J:Tm→World→Prop) (h:W P n x (qvm J Q) T w) (hJ:∀ T w,J T w→W P n y Q T w):W P n (.seq x y) Q T w :=
 zaw (q6b (fun e T w hq=>by cases e<;>first | exact hJ _ _ hq | exact hq) h)
theorem St.dropB {b:Nat} {cs:List Value} {t:TypeId} (h:St w0 X M (.box b cs t::H) w) (_:w0.heap.size≤b):St w0 X M H w:=h.drop
theorem evs {x:Operand} {i:Int} (h:evT T x= .int .i64 i):evI T (some x) (some i):=h
theorem evn:evI T none none:=trivial
def nonneg (b:Int):Option Unit:=if 0≤b then some () else none
theorem q1o {b:Int} {u:Unit} (h:nonneg b=some u):0≤b:=by
 unfold nonneg at h;split at h
 ·assumption
 ·cases h
def q1p (s:ByteArray):Option Unit:=if s.size≤140737488351232 then some () else none
theorem q6u {s:ByteArray} {u:Unit} (h:q1p s=some u):s.size≤140737488351232:=by
 unfold q1p at h;split at h
 ·assumption
 ·cases h
theorem za6 {s:ByteArray} (h:s.size≤140737488351232):rep M [Value.string s] s:=⟨rfl,h⟩
theorem za7 {x y:Operand} {t u:TypeId} {e:TypeId} {a:Addr} {S:World→Prop} {dst:Option Tmp} {ty:TypeId} {pos:String} {af:Array Edge} {g:Option (Nat × Bool)} (hx:evT T x= .pointer (some a)) (hy:evT T y= .pointer none) (ht:P.underlying t=some (.pointer e)):YV P S T ⟨dst,.binOp .eql t x y u,ty,pos,af,g⟩ (.bool false):=by
 intro w _;have h1:(Op.equal t (.pointer (some a)) (.pointer none)).run P w= .ok false w:=by
  have:Op.equal t (.pointer (some a)) (.pointer none)=Op.equalIn (9999+1) t (.pointer (some a)) (.pointer none):=rfl;rw [this];unfold Op.equalIn;simp [run_underlying ht w]
 have h2:(eqGuard .eql t x y (.pointer (some a)) (.pointer none)).run P w= .ok () w:=by
  unfold eqGuard;simp
 simp [execOp,hx,hy,binOp,h1,h2]
def inR (j n:Int):Option Unit:=if 0≤j∧j<n then some () else none
theorem q3q {j n:Int} {u:Unit} (h:inR j n=some u):0≤j∧j<n:=by
 unfold inR at h;split at h
 ·assumption
 ·cases h
theorem bt {c:Bool} {x:Value} (h:c=true) (g:x=Value.bool c):x= .bool true:=by subst h;exact g
theorem bf {c:Bool} {x:Value} (h:c=false) (g:x=Value.bool c):x= .bool false:=by subst h;exact g
theorem tr2 {x v u:Value} (h':v=u) (h:x=v):x=u:=h.trans h'
theorem bp0:([]:List (Nat × Operand)).map (fun p=>(p.1,evT T p.2))=[]:=rfl
theorem bpc {i:Nat} {x:Operand} {v:Value} {ps:List (Nat × Operand)} {vs:List (Nat × Value)} (h:evT T x=v) (hr:ps.map (fun p=>(p.1,evT T p.2))=vs):((i,x)::ps).map (fun p=>(p.1,evT T p.2))=(i,v)::vs:=by
 rw [A6,h,hr]
theorem br0 {α : Type} [Rep α]:∀ (i:Nat) v (x : α),([]:List Value)[i]? = some v→([]:List α)[i]? = some x→rep M v.cells.toList x:=fun i v x h=>by simp at h
theorem brc {α : Type} [Rep α] {v0:Value} {x0 : α} {vs:List Value} {l:List α} (h:rep M v0.cells.toList x0) (hr:∀ (i:Nat) v (x : α),vs[i]? = some v→l[i]? = some x→rep M v.cells.toList x) :
 ∀ (i:Nat) v (x : α),(v0::vs)[i]? = some v→(x0::l)[i]? = some x→rep M v.cells.toList x
 | 0,v,x,hv,hx=>by cases hv;cases hx;exact h
 | i+1,v,x,hv,hx=>hr i v x hv hx
def CB (P:Program) (f:FuncId):Prop:=∃ fn c,P.funcs[f]? = some fn∧(fn.name == "runtime.NumGoroutine")=false∧fn.body=some c
def qax (w:World) (v:Value):Ending→World→Prop:=fun e w'=>e= .returned v∧Kept w w'
theorem zgn {K:Tm→World→Prop} {dst:Option Tmp} {ty:TypeId} {pos:String} {af:Array Edge} {g:Option (Nat × Bool)} {f:FuncId} {args:List Operand} {ats:Array TypeId} {vs:List Value} {v:Value} (hcb:CB P f)
 (ha:args.map (evT T)=vs) (hSt:St w0 X M H w) (hc:Calls P f vs.toArray w (qax w v)) (hk:∀ w',St w0 X M H w'→K (qrd T dst v) w'):OW P n Q ⟨dst,.call ⟨.value (.func f),args.toArray,ats⟩,ty,pos,af,g⟩ T w K:=by
 obtain ⟨fn,c,hf,hname,hb⟩:=hcb;exact q3n hf hname hb ha hc fun e w' ⟨he,hK⟩=>⟨v,he,hk w' (hSt.call0 hK)⟩
theorem zgo {K:Tm→World→Prop} {dst:Option Tmp} {ty:TypeId} {pos:String} {af:Array Edge} {g:Option (Nat × Bool)} {f:FuncId} {args:List Operand} {ats:Array TypeId} {vs:List Value} {rv:Mm→Value→Prop} (hcb:CB P f)
 (ha:args.map (evT T)=vs) (hSt:St w0 X M H w) (hc:Calls P f vs.toArray w (Gives M w rv)) (hk:∀ v M' w',Mm.ext w0.heap.size X M M'→rv M' v→St w0 X M' H w'→K (qrd T dst v) w'):OW P n Q ⟨dst,.call ⟨.value (.func f),args.toArray,ats⟩,ty,pos,af,g⟩ T w K:=by
 obtain ⟨fn,c,hf,hname,hb⟩:=hcb;exact za3 hf hname hb ha hSt hc hk
theorem qtn {K:Tm→World→Prop} {dst:Option Tmp} {ty:TypeId} {pos:String} {af:Array Edge} {g:Option (Nat × Bool)} {α : Type} [Rep α] {t e m b:Nat} {parts:List (Nat × Operand)} {l:List α} (vs:List Value) (htp:TP P t e (Rep.k α) b) (hp:parts.map (fun p=>(p.1,evT T p.2))=vs.zipIdx.map (fun p=>(p.2,p.1))) (hm:vs.length=m) (hl:l.length=m) (hm0:0<m) (hs:m*Rep.k α ≤ 1000) (hby:m*Rep.bytes α ≤ 140737488351232)
 (hSt:St w0 X M H w) (hr:∀ (i:Nat) v x,vs[i]? = some v→l[i]? = some x→rep M v.cells.toList x) (k:∀ v M' w',Mm.ext w0.heap.size X M M'→repL M' v l→St w0 X M' (.row v e (Rep.k α)::H) w'→K (qrd T dst v) w'):OW P n Q ⟨dst,.buildSlice t m parts.toArray,ty,pos,af,g⟩ T w K:=by
 have hcells:∀ v∈vs,v.cells.size=Rep.k α := by
  intro v hv;obtain ⟨j,hj⟩:=Au hv;have hjl:j<l.length:=by rw [hl,← hm];exact (Xz.1 hj).1
  have:=Xx (hr j v l[j] hj (by simp));simpa using this
 obtain ⟨e',hrun⟩:=qod (P:=P) (qxx htp) hm hcells hs hm0 w;have hfl:(vs.flatMap fun v=>v.cells.toList)=(vs.map fun v=>v.cells.toList).flatten:=by rw [D7]
 have hle:=Mm.put_le (M:=M) (b:=w.heap.size) (vs.flatMap fun v=>v.cells.toList) (hSt.none_at (Aa _));obtain ⟨hu,i,z,hi,hz,h2,h3,h1,hk,hb⟩:=htp;have hrun2:=qho (P:=P) hu hi hz h1 h2 hk hm hcells hs hm0 w;rw [hrun] at hrun2;have hw:w.alloc (.cells (vs.flatMap (fun v=>v.cells.toList)).toArray e')=w.alloc (.cells (vs.flatMap (fun v=>v.cells.toList)).toArray e):=by
  injection hrun2
 rw [hw] at hrun;have hlen:(vs.flatMap fun v=>v.cells.toList).length=m*Rep.k α := by
  rw [← hm];clear hrun hrun2 hw hfl hle hr hp hm
  induction vs with
  | nil=>simp
  | cons v t ih =>
   simp only [A8,X5,X9,Aq,A5];rw [ih (fun u hu=>hcells u (X0 _ hu))];have:=hcells v X2;simp only [Array.length_toList,this];omega
 have hnew:(w.alloc (.cells (vs.flatMap (fun v=>v.cells.toList)).toArray e)).heap[w.heap.size]? = some (.cells (vs.flatMap (fun v=>v.cells.toList)).toArray e (0,0)):=by
  show (w.heap.push _)[w.heap.size]? = _;simp
 have hS2:=hSt.allocM (vs.flatMap (fun v=>v.cells.toList)) e;refine OW.of_run (v:= .slice (some ⟨w.heap.size,0,none⟩) m m) (w':=w.alloc (.cells (vs.flatMap (fun v=>v.cells.toList)).toArray e)) ?_ (k _ _ _ (hSt.extM _) ?_ ⟨hS2.os,hS2.tape,hS2.output,hS2.size,hS2.frame,hS2.agree,fun f hf=>?_,fun f hf c hc=>?_,.cons (fun f hf c hc hc'=>?_) hS2.apart⟩)
 ·have hpa:(parts.toArray.map fun (p:Nat × Operand)=>(p.1,evT T p.2))=(vs.zipIdx.map fun p=>(p.2,p.1)).toArray:=by rw [← hp];simp
  simp only [execOp,X6];rw [show (Array.map (fun x=>match x with | (i,x)=>(i,evT T x)) parts.toArray)=(vs.zipIdx.map fun p=>(p.2,p.1)).toArray from hpa,hrun];rfl
 ·subst hl;refine qo3 (vs:=vs.map fun v=>v.cells.toList) (by rw [Mm.put_same,hfl]) (by simp [hm]) (Aa _) hby ?_;intro i ws x hws hx;rw [Aw] at hws;cases hv:vs[i]? with
  | none=>rw [hv] at hws;cases hws
  | some v =>
   rw [hv] at hws;simp only [Ac,Option.some.injEq] at hws;subst hws;exact Bo hle (hr i v x hv hx)
 ·rcases X3.1 hf with rfl | hf
  ·refine ⟨m,vs.flatMap (fun v=>v.cells.toList),⟨hlen,.inr ⟨w.heap.size,m,_,rfl,Ag _,hnew,Aa _,?_,by simpa using hlen,?_⟩⟩,fun g hg=>by cases hg;exact Mm.put_same _ _ _⟩
   ·have:m≤m*Rep.k α := B2 _ hk;unfold maxLen;omega
   ·rw [← hlen];exact D9
  ·exact hS2.ents f hf
 ·rcases X3.1 hf with rfl | hf
  ·cases hc;exact .inr hSt.size
  ·exact hS2.mine f hf c hc
 ·cases hc;exact absurd (Ent.lt (hSt.ents f hf) hc') (E3 _)
def qai (L:List Ent):Nat→Prop:=fun b=>∃ e∈L,e.blk=some b
theorem St.lent {L:List Ent} (h:St w0 X M (L++H) w):St w (qai L) M L w :=
 ⟨rfl,rfl,rfl,Aa _,fun _ _ _=>rfl,h.agree,fun e he=>h.ents e (Bc _ he),fun e he _ hb => .inl ⟨e,he,hb⟩,(Bp.1 h.apart).1⟩
theorem St.lend {w':World} {M':Mm} {L L':List Ent} (h:St w0 X M (L++H) w) (h2:St w (qai L) M' L' w') (he:Mm.ext w.heap.size (qai L) M M'):St w0 X M' (L'++H) w'∧Mm.ext w0.heap.size X M M':=by
 have hmine:∀ b,qai L b→X b∨w0.heap.size≤b:=fun b ⟨e,he,hb⟩=>h.mine e (Bc _ he) b hb;have hap:=Bp.1 h.apart;have hH:∀ f∈H,∀ b,f.blk=some b→b<w.heap.size∧¬ qai L b:=fun f hf b hb =>
  ⟨Ent.lt (h.ents f (Bu _ hf)) hb,fun ⟨e,he,hb'⟩=>hap.2.2 e he f hf b hb' hb⟩
 refine ⟨⟨h2.os.trans h.os,h2.tape.trans h.tape,h2.output.trans h.output,Ar h.size h2.size,fun k hk hx=>?_,h2.agree,fun f hf=>?_,fun f hf b hb=>?_,Bp.2 ⟨h2.apart,hap.2.1,fun e he f hf b hb hb'=>?_⟩⟩,he.1,fun b hb hx=>he.2 b (A1 hb h.size) fun hl=>?_⟩
 ·rw [h2.frame k (A1 hk h.size) fun hl=>?_]
  ·exact h.frame k hk hx
  ·rcases hmine k hl with h1 | h1
   ·exact hx h1
   ·omega
 ·rcases Ad.1 hf with hf | hf
  ·exact h2.ents f hf
  ·exact Ent.kept (h.ents f (Bu _ hf)) fun b hb=>⟨h2.frame b (hH f hf b hb).1 (hH f hf b hb).2,he.2 b (hH f hf b hb).1 (hH f hf b hb).2⟩
 ·rcases Ad.1 hf with hf | hf
  ·rcases h2.mine f hf b hb with h1 | h1
   ·exact hmine b h1
   ·exact .inr (Ar h.size h1)
  ·exact h.mine f (Bu _ hf) b hb
 ·rcases h2.mine e he b hb with h1 | h1
  ·exact (hH f hf b hb').2 h1
  ·have:=(hH f hf b hb').1;omega
 ·rcases hmine b hl with h1 | h1
  ·exact hx h1
  ·omega
def qdq (M:Mm) (w:World) (L:List Ent) (rv:Mm→Value→List Ent→Prop):Ending→World→Prop:=fun e w' =>
 ∃ v M' L',e= .returned v∧Mm.ext w.heap.size (qai L) M M'∧St w (qai L) M' L' w'∧rv M' v L'
def WQ (P:Program) (n:Nat) (ops:Array Oper) (S:World→Prop) (K:Tm→Prop) (l:List Oper) (T:Tm):Prop:=l.all (operOk n)=true→∀ a,Fr n T a→wpQuiet P ops S (fun a'=>∃ T',Fr n T' a'∧K T') l a
theorem za8 {id:Nat} {l:List Oper} (hm:P.follows .mixedOrders=true) (hB:Region.lexB .any l.toArray=true) (hSt:St w0 X M H w) (h:WQ P n l.toArray (St w0 X M H) (fun T'=>∀ w',St w0 X M H w'→Q .normal T' w') l T):W P n (.region id l.toArray true) Q T w:=by
 intro hok a ha;refine wp_region_quiet (C:=St w0 X M H) hm hB hSt.drew ?_;have h1:=h (by simpa [qg0] using hok) a ha;have key:∀ (l':List Oper) (a:Act) {K K':Act→Prop},(∀ a,K a→K' a)→wpQuiet P l.toArray (St w0 X M H) K l' a→wpQuiet P l.toArray (St w0 X M H) K' l' a:=by
  intro l'
  induction l' with
  | nil=>intro a K K' hk h;exact hk a h
  | cons o r ih =>
   intro a K K' hk h;unfold wpQuiet at h ⊢;split
   ·rename_i hw;rw [if_pos hw] at h;exact Oper.quiet_mono (fun a ha=>ih a hk ha) h
   ·rename_i hw;rw [if_neg hw] at h;exact ih _ hk h
 exact key l a (fun a' ⟨T',hf,hK⟩ w' hw'=>⟨T',hf,hK w' hw'⟩) h1
theorem zdj {S:World→Prop} {K:Tm→Prop} (h:K T):WQ P n ops S K [] T:=fun _ _ ha=>⟨T,ha,h⟩
theorem WQ_y {S:World→Prop} {K:Tm→Prop} {rest:List Oper} {d:Nat} {op:Op} {ty:TypeId} {pos:String} {af:Array Edge} {v:Value} (h:YV P S T ⟨some d,op,ty,pos,af,none⟩ v) (k:WQ P n ops S K rest (upd T d v)):WQ P n ops S K (⟨some d,op,ty,pos,af,none⟩::rest) T:=by
 intro hok a ha;simp only [Dc,X1] at hok;unfold wpQuiet;rw [if_pos (show Region.wanted ⟨some d,op,ty,pos,af,none⟩ (yielded ops a.tmps)=true from rfl)];refine ⟨v,fun w' hw'=>?_,k hok.2 _ (ha.put (some d) v (operOk.lt hok.1))⟩;unfold Oper.quietAt;rw [ha.eval,h w' hw'];exact ⟨rfl,rfl⟩
theorem q6v {j:Nat} {b:Nat} {cs:List Value} {t:TypeId} (hj:H[j]? = some (.box b cs t)):BV (St w0 X M H) b cs:=fun w h=>h.bvB j hj w rfl
theorem zgp {b:Nat} {p:List Value} (hb:M b=some p):BV (St w0 X M H) b p:=fun w h=>h.agree b p hb
end
theorem qah {P:Program} {f:FuncId} (h:(match P.funcs[f]? with | some fn => !(fn.name == "runtime.NumGoroutine")&&fn.body.isSome | none=>false)=true):CB P f:=by
 cases hf:P.funcs[f]? with
 | none=>rw [hf] at h;cases h
 | some fn =>
  rw [hf] at h;simp only [X1,Dm] at h;obtain ⟨c,hc⟩:=Eo.1 h.2;exact ⟨fn,c,hf,h.1,hc⟩
instance {α : Type} [Rep α] [Pos α] {n:Nat} [NeZero n]:Pos (Vector α n):=⟨Nat.mul_pos (Nat.pos_of_ne_zero (NeZero.ne n)) Pos.pos⟩
abbrev Ab := @Bool.not_true
abbrev Aj := @Bool.true_and
abbrev A0 := @List.mem_range
abbrev Ap := @Bool.eq_iff_iff
abbrev Bg := @List.all_eq_true
abbrev A7 := @List.pairwise_iff_getElem
def EQ (P:Program) (t:TypeId) (α : Type) [Rep α] [DecidableEq α] (n:Nat):Prop :=
 ∀ (M M':Mm) (w:World) (d:Nat) (xs ys:List Value) (o o':Nat) (x y : α),n≤d→rep M (sl xs o (Rep.k α)) x→rep M' (sl ys o' (Rep.k α)) y →
  ∃ a b,(part t xs.toArray o).run P w= .ok a w∧(part t ys.toArray o').run P w= .ok b w∧(Op.equalIn d t a b).run P w= .ok (decide (x=y)) w
def EV (P:Program) (t:TypeId) (α : Type) [Rep α] [DecidableEq α] (n:Nat):Prop :=
 ∀ (M M':Mm) (w:World) (d:Nat) (xs ys:List Value) (x y : α),n≤d→rep M xs x→rep M' ys y →
  (Op.equalIn d t (.agg xs.toArray) (.agg ys.toArray)).run P w= .ok (decide (x=y)) w
section
variable {P:Program} {t e:TypeId}
theorem q3r (ht:P.underlying t=some (.int .i64)):EQ P t Int 1:=by
 intro M M' w d xs ys o o' x y hd hx hy;have hx:sl xs o 1=[.int .i64 x]:=hx;have hy:sl ys o' 1=[.int .i64 y]:=hy;obtain ⟨d,rfl⟩:∃ e,d=e+1:=⟨d-1,by omega⟩;refine ⟨_,_,qju ⟨_,ht,rfl⟩ _ _ _ (by simpa using qtj hx) w,qju ⟨_,ht,rfl⟩ _ _ _ (by simpa using qtj hy) w,?_⟩;rw [run_equalIn_int w d t .i64 .i64 x y ht];rfl
theorem q6w (ht:P.underlying t=some .bool):EQ P t Bool 1:=by
 intro M M' w d xs ys o o' x y hd hx hy;have hx:sl xs o 1=[.bool x]:=hx;have hy:sl ys o' 1=[.bool y]:=hy;obtain ⟨d,rfl⟩:∃ e,d=e+1:=⟨d-1,by omega⟩;refine ⟨_,_,qju ⟨_,ht,rfl⟩ _ _ _ (by simpa using qtj hx) w,qju ⟨_,ht,rfl⟩ _ _ _ (by simpa using qtj hy) w,?_⟩;rw [run_equalIn_bool' w d t x y ht];cases x<;>cases y<;>rfl
variable {α : Type} [Rep α] [DecidableEq α]
theorem qto {n m d:Nat} (he:EQ P e α n) (hd:n≤d) (hc:P.cellsOf e=Rep.k α) {M M':Mm} {w:World} {xs ys:List Value} {x y:Vector α m} (hx:rep M xs x) (hy:rep M' ys y):∀ (is:List Nat),(∀ i∈is,i<m) →
 (Op.eqItems d e (P.cellsOf e) xs.toArray ys.toArray is).run P w= .ok (is.all fun i=>decide (x[i]? = y[i]?)) w
 | [],_=>by simp [Op.eqItems]
 | i::is,h=>by
  have hi:=h i X2;have ih:=qto (w:=w) he hd hc hx hy is fun j hj=>h j (X0 _ hj);obtain ⟨_,_,hx3⟩:=hx;obtain ⟨_,_,hy3⟩:=hy;obtain ⟨a,b,h1,h2,h3⟩:=he M M' w d xs ys (i*Rep.k α) (i*Rep.k α) x[i] y[i] hd (hx3 i hi) (hy3 i hi);rw [← hc] at h1 h2;simp only [Op.eqItems,X6,h1,h2,h3,Result.andThen_ok,Dc];have e1:x[i]? = some x[i]:=by simp [hi]
  have e2:y[i]? = some y[i]:=by simp [hi]
  rw [e1,e2];by_cases hxy:x[i]=y[i]
  ·simp only [hxy,decide_true,Ab,A3,if_false,Aj];exact ih
  ·simp [hxy]
theorem qxy {m n:Nat} (ht:P.underlying t=some (.array m e)) (hi:(P.info? e).isSome=true) (hc:P.cellsOf e=Rep.k α) (he:EQ P e α n):EV P t (Vector α m) (n+1):=by
 intro M M' w d xs ys x y hd hx hy;obtain ⟨d,rfl⟩:∃ e,d=e+1:=⟨d-1,by omega⟩;obtain ⟨i,hi⟩:=Eo.1 hi;rw [run_equalIn_array w d _ _ ht hi,qto he E8 hc hx hy (List.range m) fun j hj=>A0.1 hj];congr 1;rw [Ap];simp only [Bg,A0,decide_eq_true_eq];constructor
 ·intro h;refine Vector.ext fun j hj=>?_;have:=h j hj;simpa [hj] using this
 ·intro h j hj;rw [h]
theorem za9 {d:Nat} {xs ys:Array Value} (w:World):(Op.eqFields d xs ys []).run P w= .ok true w:=by simp [Op.eqFields]
theorem qxz {f:Field} {fs:List Field} {d n o k:Nat} {xs ys:List Value} {M M':Mm} {w:World} {x y : α} {r:Bool} (hn:f.name ≠ "_") (he:EQ P e α n) (hte:f.type=e) (hd:n≤d) (ho:f.offset=o) (hk:Rep.k α = k) (hx:rep M (sl xs o k) x) (hy:rep M' (sl ys o k) y)
 (hr:(Op.eqFields d xs.toArray ys.toArray fs).run P w= .ok r w):(Op.eqFields d xs.toArray ys.toArray (f::fs)).run P w= .ok (decide (x=y)&&r) w:=by
 subst hte;subst ho;subst hk;obtain ⟨a,b,h1,h2,h3⟩:=he M M' w d xs ys f.offset f.offset x y hd hx hy;simp only [Op.eqFields,hn,ne_eq,not_false_eq_true,if_true,X6,h1,h2,h3,Result.andThen_ok];by_cases hxy:x=y
 ·simpa [hxy] using hr
 ·simp [hxy]
def EG (P:Program) (t:TypeId) (α : Type) [Rep α] [DecidableEq α]:Prop:=P.eqGuardType P.depth t=false∧EV P t α 5
theorem EV.le {n m:Nat} (h:EV P t α n) (hm:n≤m):EV P t α m:=fun M M' w d xs ys x y hd hx hy=>h M M' w d xs ys x y (Ar hm hd) hx hy
end
section
variable {P:Program} {T:Tm} {S:World→Prop} {dst:Option Tmp} {ty:TypeId} {pos:String} {af:Array Edge} {g:Option (Nat × Bool)} {x y:Operand} {t u:TypeId}
theorem zgq {α : Type} [Rep α] [DecidableEq α] {M M':Mm} {cs ds:List Value} {a b : α} (hx:evT T x= .agg cs.toArray) (hy:evT T y= .agg ds.toArray) (hg:EG P t α) (h1:rep M cs a) (h2:rep M' ds b):YV P S T ⟨dst,.binOp .eql t x y u,ty,pos,af,g⟩ (.bool (decide (a=b))):=by
 intro w _;have:=hg.2 M M' w 10000 cs ds a b E9 h1 h2;simp [execOp,hx,hy,run_eqGuard_agg w .eql t x y _ _ hg.1,run_eql_struct,this]
theorem zgr {α : Type} [Rep α] [DecidableEq α] {M M':Mm} {cs ds:List Value} {a b : α} (hx:evT T x= .agg cs.toArray) (hy:evT T y= .agg ds.toArray) (hg:EG P t α) (h1:rep M cs a) (h2:rep M' ds b):YV P S T ⟨dst,.binOp .neq t x y u,ty,pos,af,g⟩ (.bool (!decide (a=b))):=by
 intro w _;have:=hg.2 M M' w 10000 cs ds a b E9 h1 h2;simp [execOp,hx,hy,run_eqGuard_agg w .neq t x y _ _ hg.1,run_neq_struct,this]
def qze:Value→Bool
 | .slice none _ _=>true
 | _=>false
theorem qwe {α : Type} [Rep α] {M:Mm} {v:Value} {l:List α} (h:repL M v l) (hn:qze v=true):l=[]:=by
 obtain ⟨a,cap,rfl,h1,h2,_⟩:=h;cases a with
 | none =>
  have:=h2 rfl;exact Av.1 E8
 | some a=>cases hn
theorem q3s {α : Type} [Rep α] {M:Mm} {v:Value} {l:List α} {e:TypeId} (hx:evT T x=v) (hy:evT T y= .slice none 0 0) (ht:P.underlying t=some (.slice e)) (h:repL M v l):YV P S T ⟨dst,.binOp .eql t x y u,ty,pos,af,g⟩ (.bool (qze v)):=by
 intro w _;obtain ⟨a,cap,rfl,_⟩:=h;have h1:(Op.equal t (.slice a l.length cap) (.slice none 0 0)).run P w= .ok (qze (.slice a l.length cap)) w:=by
  have:Op.equal t (.slice a l.length cap) (.slice none 0 0)=Op.equalIn (9999+1) t (.slice a l.length cap) (.slice none 0 0):=rfl;rw [this];unfold Op.equalIn;cases a<;>simp [run_underlying ht w,qze]
 have h2:(eqGuard .eql t x y (.slice a l.length cap) (.slice none 0 0)).run P w= .ok () w:=by simp [eqGuard]
 have h3:(binOp .eql t (.slice a l.length cap) (.slice none 0 0)).run P w= .ok (.bool (qze (.slice a l.length cap))) w:=by
  simp only [binOp];simp [h1]
 simp [execOp,hx,hy,h2,h3]
theorem qwf {zs:List Value} {n k:Nat} (hz:TZ P t zs) (ht:IA P t n k):YV P S T ⟨dst,.build t #[],ty,pos,af,g⟩ (.agg zs.toArray):=by
 intro w _;obtain ⟨i,z,h2,h3,h4⟩:=hz;obtain ⟨e,h1,h5⟩:=ht;have hz:z.cells=zs.toArray:=by rw [← h4]
 simp only [execOp,Instr.build];simp [zeroValue,typeInfo,h2,h3,run_underlying h1 w,qaw h5,hz,Instr.fill]
end
section
variable {P:Program} {n:Nat} {Q:Exit→Tm→World→Prop} {T:Tm} {w0 w:World} {X:Nat→Prop} {M:Mm} {H:List Ent}
theorem qwg {K:Tm→World→Prop} {dst:Option Tmp} {ty:TypeId} {pos:String} {af:Array Edge} {g:Option (Nat × Bool)} {t e k b:Nat} (htp:TP P t e k b)
 (hSt:St w0 X M H w) (kk:∀ v M' w',Mm.ext w0.heap.size X M M'→(∀ (α : Type) [Rep α],repL M' v ([]:List α))→St w0 X M' (.row v e k::H) w'→K (qrd T dst v) w'):OW P n Q ⟨dst,.buildSlice t 0 #[],ty,pos,af,g⟩ T w K:=by
 obtain ⟨hu,i,z,hi,hz,h2,h3,h1,hk,hb⟩:=htp;have hrun:(Instr.buildSlice t 0 #[]).run P w= .ok (.slice (some ⟨w.heap.size,0,none⟩) 0 0) (w.alloc (.cells #[] e)):=by
  simp only [Instr.buildSlice,X6,run_underlying hu w,Result.andThen,qaw (P:=P) (t:=e) (n:=k) (by rw [hi];simp [h2]) w];have e0:Array.range (0*k) = #[]:=by simp
  rw [if_neg (by simp)];simp only [e0];simp [Instr.fill,newRow,newObj];rfl
 have hnew:(w.alloc (.cells #[] e)).heap[w.heap.size]? = some (.cells #[] e (0,0)):=by
  show (w.heap.push _)[w.heap.size]? = _;simp
 have hS2:=hSt.allocM [] e;refine OW.of_run (v:= .slice (some ⟨w.heap.size,0,none⟩) 0 0) (w':=w.alloc (.cells #[] e)) ?_ (kk _ _ _ (hSt.extM []) ?_ ⟨hS2.os,hS2.tape,hS2.output,hS2.size,hS2.frame,hS2.agree,fun f hf=>?_,fun f hf c hc=>?_,.cons (fun f hf c hc hc'=>?_) hS2.apart⟩)
 ·simp only [execOp,X6];simp [hrun]
 ·intro α _;exact ⟨some ⟨w.heap.size,0,none⟩,0,rfl,Aa _,fun h=>(by cases h),by simp,fun i x hx=>by simp at hx⟩
 ·rcases X3.1 hf with rfl | hf
  ·exact ⟨0,[],⟨by simp,.inr ⟨w.heap.size,0,#[],rfl,Ag _,hnew,Aa _,Ag _,by simp,by simp⟩⟩,fun g hg=>by cases hg;exact Mm.put_same _ _ _⟩
  ·exact hS2.ents f hf
 ·rcases X3.1 hf with rfl | hf
  ·cases hc;exact .inr hSt.size
  ·exact hS2.mine f hf c hc
 ·cases hc;exact absurd (Ent.lt (hSt.ents f hf) hc') (E3 _)
end
section
variable {w0 w:World} {X:Nat→Prop} {M:Mm} {H:List Ent}
theorem St.freeze {b:Nat} {cs:List Value} {t:TypeId} (j:Nat) (h:St w0 X M H w) (hj:H[j]? = some (.box b cs t)):∃ M',M' b=some cs∧Mm.ext w0.heap.size X M M'∧St w0 X M' (H.eraseIdx j) w:=by
 have hmem:Ent.box b cs t∈H:=X7 hj;obtain ⟨hh,hMb⟩:=h.ents _ hmem;have hsub:=List.eraseIdx_sublist H j;have hne:∀ e∈H.eraseIdx j,∀ c,e.blk=some c→c≠b:=by
  intro e he c hc hcb;subst hcb;obtain ⟨i,hij,hi⟩:=List.mem_eraseIdx_iff_getElem?.1 he;rcases Dw hij with hlt | hlt
  ·exact A7.1 h.apart i j (Xz.1 hi).1 (Xz.1 hj).1 hlt c (by rw [(Xz.1 hi).2];exact hc) (by rw [(Xz.1 hj).2];rfl)
  ·exact A7.1 h.apart j i (Xz.1 hj).1 (Xz.1 hi).1 hlt c (by rw [(Xz.1 hj).2];rfl) (by rw [(Xz.1 hi).2];exact hc)
 refine ⟨M.put b cs,Mm.put_same _ _ _,⟨Mm.put_le cs hMb,fun c hc hx=>Mm.put_other _ _ fun hcb=>?_⟩,⟨h.os,h.tape,h.output,h.size,h.frame,fun c p hc=>?_,fun e he=>?_,fun e he=>h.mine e (hsub.subset he),h.apart.sublist hsub⟩⟩
 ·subst hcb;rcases h.mine _ hmem c rfl with h1 | h1
  ·exact hx h1
  ·omega
 ·by_cases hcb:c=b
  ·subst hcb;rw [Mm.put_same] at hc;cases hc;exact ⟨_,t,(0,0),hh,by simp⟩
  ·rw [Mm.put_other _ _ hcb] at hc;exact h.agree c p hc
 ·exact Ent.kept (h.ents e (hsub.subset he)) fun c hc=>⟨rfl,Mm.put_other _ _ (hne e he c hc)⟩
theorem q9f {α : Type} [Rep α] {b off n:Nat} {cs:List Value} {vec:Vector α n} (hb:M b=some cs) (hl:off+n*Rep.k α ≤ cs.length) (h:rep M (sl cs off (n*Rep.k α)) vec) (hby:n*Rep.bytes α ≤ 140737488351232):repL M (.slice (some ⟨b,off,none⟩) n n) vec.toList:=by
 have hn:vec.toList.length=n:=by simp
 refine ⟨some ⟨b,off,none⟩,n,by rw [hn],by rw [hn];exact Aa _,fun h=>(by cases h),by rw [hn];exact hby,fun i x hx=>?_⟩;have hi:i<n:=by
  have:=(Xz.1 hx).1;omega
 have hik:i*Rep.k α + Rep.k α ≤ n*Rep.k α := by
  have:=Af (Rep.k α) (show i+1≤n by omega);rw [Aq,A5] at this;exact this
 obtain ⟨_,_,h3⟩:=h;have:=h3 i hi;rw [qxr _ hik] at this;have hxe:vec[i]=x:=by
  have:=(Xz.1 hx).2;simpa using this
 refine ⟨b,off,cs,rfl,hb,by omega,?_⟩;rw [← hxe];exact this
end
section
variable {P:Program} {T:Tm} {S:World→Prop} {dst:Option Tmp} {ty:TypeId} {pos:String} {af:Array Edge} {g:Option (Nat × Bool)}
theorem zdk {t:TypeId} {k n b off:Nat} {x:Operand} {lo hi:Option Operand} {l h:Option Int} {p q:Nat} (ht:IA P t n k) (hx:evT T x= .pointer (some ⟨b,off,none⟩)) (hl:evI T lo l) (hh:evI T hi h) (hc:qg2 n l h=some (p,q)) :
 YV P S T ⟨dst,.slice t x lo hi none,ty,pos,af,g⟩ (qoc (.slice (some ⟨b,off,none⟩) n n) k p q):=by
 intro w _;obtain ⟨e,h1,h2⟩:=ht;have hb:=qil (P:=P) (b:=false) (cap:=n) hl hh hc (Aa _) w;simp [execOp,hx,Instr.sliceAt,Instr.sureAddr,run_underlying h1 w,hb,qaw h2,qoc];split<;>rfl
end
structure Hole where
instance:Rep Hole where
 k:=1
 bytes:=24
 rep _ cs _:=∃ v:Value,cs=[v]∧v.oneCell'=true
 len h:=by obtain ⟨v,rfl,_⟩:=h;rfl
 mono _ h:=h
 one h:=by obtain ⟨v,rfl,h⟩:=h;simpa using h
instance:Zr Hole:=⟨Hole.mk,[.slice none 0 0],_,rfl,by simp [Value.oneCell']⟩
instance:Pos Hole:=⟨Nat.one_pos⟩
abbrev Eg := @Nat.eq_zero_or_pos
abbrev En := @List.getElem?_set
theorem rr {α : Type} [Rep α] {M:Mm} {cs:List Value} {d : α} (h:rep M cs d):rep M (sl cs 0 (Rep.k α)) d:=q9c rfl h
theorem ri {M:Mm} (x:Int):rep M [Value.int .i64 x] x:=rfl
theorem rb {M:Mm} (x:Bool):rep M [Value.bool x] x:=rfl
theorem ru {M:Mm} (x:Int):rep M [Value.int .u8 x] (⟨x⟩:Byt):=rfl
def Pn {α : Type} [Rep α] (M:Mm) (cs ws:List Value) (q o n:Nat) (x : α):Prop:=rep M (sl (pt cs q ws) o n) x∧o≤q∧q+ws.length≤o+n∧o+n≤cs.length
section
variable {α β : Type} [Rep α] [Rep β] {M:Mm} {cs ws:List Value}
theorem Lf {q k:Nat} {y x : α} (old:rep M (sl cs q k) y) (hx:rep M ws x) (hk:Rep.k α = k:=by rfl) (h0:0<k:=by decide):Pn M cs ws q q k x:=by
 have h1:=Xx old;have h2:=Xx hx;have h3:=zay (h1.trans hk) h0;exact ⟨q9d hk hx E8,Aa _,by omega,h3⟩
theorem vu {n k N o q:Nat} {v v':Vector α n} {j:Int} {x : α} (hk:Rep.k α = k) (hN:n*k=N) (h:rep M (sl cs o N) v) (hx:Pn M cs ws q (o+j.toNat*k) k x) (hj:qc1 v j x=some v'):Pn M cs ws q o N v':=by
 obtain ⟨h1,h2,h3,h4⟩:=hx;obtain ⟨h5,h6,_⟩:=qza hj;have hle:=Af k (show j.toNat+1≤n by omega);rw [Aq,A5,hN] at hle;have hlen:=Xx h;have hN':Rep.k (Vector α n)=N:=by rw [← hN,← hk];rfl
 by_cases h0:0<N
 ·have hl:=zay (hlen.trans hN') h0;exact ⟨vs hk hN h h1 hj h2 h3 hl,by omega,by omega,hl⟩
 ·have hk0:k=0:=by
   rcases Eg k with e | e
   ·exact e
   ·have:0<n*k:=Nat.mul_pos E8 e;omega
  have hl:o+N≤cs.length:=by omega
  exact ⟨vs hk hN h h1 hj h2 h3 hl,by omega,by omega,hl⟩
theorem Wh {q:Nat} {d d0 : α} (h0:rep M cs d0) (h:Pn M cs ws q 0 (Rep.k α) d):rep M (pt cs q ws) d:=by
 obtain ⟨h1,h2,h3,h4⟩:=h;exact q6s (by rw [qjt E8];exact Xx h0) h1
theorem zgs {cs ws:List Value} {o m p n:Nat} {vs:List Value} (hs:sl cs o m=ws) (hp:sl ws p n=vs) (h:p+n≤m):sl cs (o+p) n=vs:=by rw [← hs,qxr _ h] at hp;exact hp
end
abbrev Fd:=Nat × Nat × (List Value→Prop)
def FL (cs:List Value):List Fd→Prop
 | []=>True
 | [p]=>p.2.2 (sl cs p.1 p.2.1)
 | p::q::t=>p.2.2 (sl cs p.1 p.2.1)∧FL cs (q::t)
theorem q3t {cs:List Value}:∀ (l:List Fd),FL cs l↔∀ p∈l,p.2.2 (sl cs p.1 p.2.1)
 | []=>by simp [FL]
 | [p]=>by simp [FL]
 | p::q::t=>by simp only [FL,q3t (q::t),List.mem_cons,forall_eq_or_imp]
structure Lay (α : Type) [Rep α] (M:Mm) where
 L : α → List Fd
 un:∀ {c d},rep M c d→c.length=Rep.k α ∧ FL c (L d)
 fo:∀ {c d},c.length=Rep.k α ∧ FL c (L d)→rep M c d
def chk (K j off n:Nat):Nat→List Fd→Bool
 | _,[]=>true
 | i,p::t=>(i==j||((Nat.ble (p.1+p.2.1) off||Nat.ble (off+n) p.1)&&Nat.ble (p.1+p.2.1) K))&&chk K j off n (i+1) t
theorem zai {K j off n:Nat}:∀ (l:List Fd) (i m:Nat) (p:Fd),chk K j off n i l=true→l[m]? = some p→i+m≠j→(p.1+p.2.1≤off∨off+n≤p.1)∧p.1+p.2.1≤K
 | [],_,_,_,_,h,_=>by simp at h
 | a::t,i,0,p,hc,h,hj=>by
  rw [List.getElem?_cons_zero] at h;cases h;simp only [chk,Bool.and_eq_true,Bool.or_eq_true,beq_iff_eq,Nat.ble_eq] at hc;rcases hc.1 with h | h
  ·exact absurd h E8
  ·exact h
 | a::t,i,m+1,p,hc,h,hj=>by
  rw [List.getElem?_cons_succ] at h;simp only [chk,Bool.and_eq_true] at hc;exact zai t (i+1) m p hc.2 h E8
section
variable {α β : Type} [Rep α] [Rep β] {M:Mm} {cs ws:List Value} {o q off n:Nat} {d d' : α} {x : β}
theorem Lay.p (Y:Lay α M) (j:Nat) (h:rep M (sl cs o (Rep.k α)) d) (hj:(Y.L d)[j]? = some (off,n,fun c=>rep M c x)) (hn:Nat.ble (off+n) (Rep.k α)=true:=by kernel_rfl):rep M (sl cs (o+off) n) x:=by
 have:=(q3t _).1 (Y.un h).2 _ (X7 hj);have this:rep M (sl (sl cs o (Rep.k α)) off n) x:=this;rwa [qxr _ (Dl hn)] at this
theorem Lay.u (Y:Lay α M) (j:Nat) (h:rep M (sl cs o (Rep.k α)) d) (hx:Pn M cs ws q (o+off) n x) (hL:Y.L d'=(Y.L d).set j (off,n,fun c=>rep M c x)) (hc:(chk (Rep.k α) j off n 0 (Y.L d)&&(Nat.ble (off+n) (Rep.k α)&&Nat.ble 1 (Rep.k α)))=true:=by kernel_rfl):Pn M cs ws q o (Rep.k α) d':=by
 obtain ⟨hx,h1,h2,h3⟩:=hx;simp only [X1,Nat.ble_eq] at hc;obtain ⟨hc,hn,hK⟩:=hc;obtain ⟨hl,hF⟩:=Y.un h;have hle:=zay hl hK;refine ⟨Y.fo ⟨qpl (by rw [qjt E8];exact hle),(q3t _).2 fun p hp=>?_⟩,by omega,by omega,hle⟩;rw [hL] at hp;obtain ⟨i,hi⟩:=Au hp;rw [En] at hi;by_cases e:j=i
 ·rw [if_pos e] at hi;split at hi
  ·cases hi;show rep M (sl (sl (pt cs q ws) o (Rep.k α)) off n) x;rw [qxr _ hn];exact hx
  ·cases hi
 ·rw [if_neg e] at hi;obtain ⟨ha,hb⟩:=zai _ 0 i p hc hi E8;have:=(q3t _).1 hF p (X7 hi);rw [qxr _ hb] at this ⊢;rwa [qij E8 E8]
end
theorem zp {α : Type} [Rep α] [Zr α] {M:Mm} {cs:List Value} (h:cs=Zr.zc α):rep M cs (Zr.zd : α):=h ▸ Zr.zr
theorem o2 {p:Value→Prop} {cs:List Value} {o n:Nat} (m:Nat) (h:∀ u∈sl cs o n,p u) (h':∀ u∈sl cs (o+n) m,p u):∀ u∈sl cs o (n+m),p u:=fun u hu=>by
 rw [← q3h] at hu;exact (Ad.1 hu).elim (h u) (h' u)
section
variable {P:Program} {n:Nat} {Q:Exit→Tm→World→Prop} {T:Tm} {w w0:World} {X:Nat→Prop} {M:Mm} {H:List Ent} {K:Tm→World→Prop} {ty:TypeId} {pos:String} {af:Array Edge} {g:Option (Nat × Bool)}
theorem O_sx {α β : Type} [Rep α] [Rep β] (j m:Nat) {b off:Nat} {cs ws:List Value} {t t':TypeId} {x y:Operand} {v:Value} {d0 d1 d2 : α} {e : β} (hSt:St w0 X M H w) (hj:H[j]? = some (.box b cs t')) (h0:rep M cs d0)
 (hx:evT T x= .pointer (some ⟨b,off,none⟩)) (hy:evT T y=v) (hr:rep M ws e) (hv:v.cells.toList=ws) (hm:Rep.k β = m) (hb:Pn M cs ws off 0 (Rep.k α) d1) (hd:some d1=some d2)
 (k:∀ cs' w',rep M cs' d2→(∀ {o n:Nat},o+n≤off∨off+m≤o→sl cs' o n=sl cs o n)→sl cs' off m=ws→St w0 X M (H.set j (.box b cs' t')) w'→K T w') (hn:(P.info? t).map (·.size)=some m:=by kernel_rfl) :
 OW P n Q ⟨none,.store t x y,ty,pos,af,g⟩ T w K:=by
 have hlen:=(Xx hr).trans hm;have h4:=hb.2.2.1;have h5:=hb.2.2.2;refine O_st hSt hj hn hx hy hv hlen (Rep.one hr) E8 fun w' hS'=>?_;exact k _ w' (zah (Wh h0 hb) hd) (fun h=>qij E8 E8) (qre E8 hlen) hS'
end
abbrev B5 := @Int.tmod_eq_emod_of_nonneg
abbrev Xw := @Go.Lib.hid
abbrev Dr := @List.any_eq_true
abbrev Dv := @List.any_append
def qa4 (k:Int):Int:=if k%2=0 then 0 else 1
def ofZ (n:Int):Int:=if n<3 then 0 else 1
def qcp (v:Int):Int:=if v>1099511627776 then 1099511627776 else if v < -1099511627776 then -1099511627776 else v
def doZ (v:Int) (o:GOp):Int:=if o.kind=2 then qcp o.n else if o.kind=3 then qcp (qcp v+qcp o.n) else qcp v
theorem qin {a b:Int} (h:a=b):Ending.returned (.int .i64 a)= .returned (.int .i64 b):=by rw [h]
theorem qal {a b:Bool} (h:a=b):Ending.returned (.bool a)= .returned (.bool b):=by rw [h]
theorem zdl (k:Int):k.tmod 2=if k%2=0 then 0 else if 0≤k then 1 else -1:=by
 rcases Int.lt_or_le k 0 with h | h
 ·obtain ⟨m,rfl⟩:∃ m,k = -m:=⟨-k,by omega⟩;rw [Int.neg_tmod,B5 E8];split
  ·omega
  ·rw [if_neg E8];omega
 ·rw [B5 h];split<;>omega
theorem q1q (k:Int):(wrap64 (k.tmod 2+2)).tmod 2=qa4 k:=by
 rw [zdl k];unfold qa4;split
 ·rw [IntWalk.wrap64_in _ ⟨by omega,by omega⟩];rfl
 ·split<;>rw [IntWalk.wrap64_in _ ⟨by omega,by omega⟩]<;>rfl
theorem qg3 (k:Int) (w:World) :
 Calls Tryz.prog 92 #[.int .i64 k] w fun e w'=>e= .returned (.int .i64 (qa4 k))∧w=w':=by
 go_enter Tryz.func92,Tryz.ntmps92;go_wp2;go_ret;exact ⟨qin (q1q k),rfl⟩
theorem qdr (k:Int) (w:World) :
 Calls Tryz.prog 58 #[.int .i64 k] w fun e w'=>e= .returned (.int .i64 (qa4 k))∧w=w':=by
 have ht:=zdl k;by_cases h:k%2=0
 ·rw [if_pos h] at ht;have hb:(k.tmod 2==0)=true:=by simp [ht]
  clear ht;go_enter Tryz.func58,Tryz.ntmps58;go_wp2;go_ret;exact ⟨qin (by unfold qa4;rw [if_pos h]),rfl⟩
 ·rw [if_neg h] at ht;have hb:(k.tmod 2==0)=false:=by rw [ht];split<;>rfl
  clear ht;go_enter Tryz.func58,Tryz.ntmps58;go_wp2;go_ret;exact ⟨qin (by unfold qa4;rw [if_neg h]),rfl⟩
theorem zdm (n:Int) (w:World) :
 Calls Tryz.prog 68 #[.int .i64 n] w fun e w'=>e= .returned (.int .i64 (ofZ n))∧w=w':=by
 go_enter Tryz.func68,Tryz.ntmps68;go_wp2
 all_goals
  go_ret
  exact ⟨qin (by unfold ofZ;split<;>omega),rfl⟩
theorem q4q (n:Int) (w:World) :
 Calls Tryz.prog 48 #[.int .i64 n] w fun e w'=>e= .returned (.int .i64 (ofZ n))∧w=w':=by
 by_cases h:n<3
 all_goals
  go_enter Tryz.func48,Tryz.ntmps48
  go_wp2
  go_ret
  exact ⟨qin (by unfold ofZ;split<;>omega),rfl⟩
theorem ql2 (v:Int) (w:World) :
 Calls Tryz.prog 82 #[.int .i64 v] w fun e w'=>e= .returned (.int .i64 (qcp v))∧w=w':=by
 by_cases h:1099511627776<v
 ·go_enter Tryz.func82,Tryz.ntmps82;go_wp2;go_ret;exact ⟨qin (by unfold qcp;split<;>omega),rfl⟩
 ·by_cases h2:v < -1099511627776
  all_goals
   go_enter Tryz.func82,Tryz.ntmps82
   go_wp2
   go_ret
   exact ⟨qin (by unfold qcp;split<;>(try split)<;>omega),rfl⟩
theorem qpn (n:Int) (w:World) :
 Calls Tryz.prog 42 #[.int .i64 n] w fun e w'=>e= .returned (.bool (decide (0≤n∧n<32)))∧w=w':=by
 by_cases h:0≤n
 all_goals
  go_enter Tryz.func42,Tryz.ntmps42
  go_wp2
  go_ret
  exact ⟨qal (by simp;omega),rfl⟩
theorem zdn (v:Int) (o:GOp) (w:World) :
 Calls Tryz.prog 111 #[.int .i64 v,.agg #[.int .i64 o.kind,.int .i64 o.key,.int .i64 o.n]] w fun e w'=>e= .returned (.int .i64 (doZ v o))∧Below w.heap.size w w':=by
 go_enter Tryz.func111,Tryz.ntmps111;go_wp2
 all_goals
  go_ret
  exact ⟨qin (by unfold doZ qcp;simp_all<;>omega),(Below.refl _ _).alloc (Aa _) _⟩
theorem qzf (v:Int) : -1099511627776≤qcp v∧qcp v≤1099511627776:=by unfold qcp;split<;>(try split)<;>omega
theorem q9g (v:Int) (o:GOp) (w:World) :
 Calls Tryz.prog 100 #[.int .i64 v,.agg #[.int .i64 o.kind,.int .i64 o.key,.int .i64 o.n]] w fun e w'=>e= .returned (.int .i64 (doZ v o))∧Below w.heap.size w w':=by
 have hv:=qzf v;have hn:=qzf o.n;by_cases h2:o.kind=2
 ·have hb2:(o.kind==2)=true:=by simp [h2]
  have H2:=Xw h2;clear h2;go_enter Tryz.func100,Tryz.ntmps100;go_wp2_with (go_at_call 82;refine (ql2 _ _).mono ?_;rintro e w' ⟨rfl,rfl⟩);go_ret;exact ⟨qin (by unfold doZ;rw [if_pos H2.out]),(Below.refl _ _).alloc (Aa _) _⟩
 ·have hb2:(o.kind==2)=false:=by simp [h2]
  by_cases h3:o.kind=3
  ·have hb3:(o.kind==3)=true:=by simp [h3]
   have H2:=Xw h2;have H3:=Xw h3;clear h2 h3;go_enter Tryz.func100,Tryz.ntmps100;go_wp2_with fail;go_quiet ((go_at_call 82;exact Calls.quiet_of_same (zdb (ql2 _ _))));go_wp2_with (go_at_call 82;refine (ql2 _ _).mono ?_;rintro e w' ⟨rfl,rfl⟩);go_ret;exact ⟨qin (by unfold doZ;rw [if_neg H2.out,if_pos H3.out]),by (repeat (first | exact Below.refl _ _ | assumption | refine Below.drewN ?_ _ | refine Below.drew ?_ | refine Below.alloc ?_ (by simp<;>omega) _))⟩
  ·have hb3:(o.kind==3)=false:=by simp [h3]
   have H2:=Xw h2;have H3:=Xw h3;clear h2 h3;go_enter Tryz.func100,Tryz.ntmps100;go_wp2_with (go_at_call 82;refine (ql2 _ _).mono ?_;rintro e w' ⟨rfl,rfl⟩);go_ret;exact ⟨qin (by unfold doZ;rw [if_neg H2.out,if_neg H3.out]),(Below.refl _ _).alloc (Aa _) _⟩
def qco (l:List Int) (n:Int):Bool:=l.any fun m=>m==n
theorem qf3 {S:Nat→Prop} (v:Value) (l:List Int) (n:Int) (w:World) (hv:RInts S w v l) :
 Calls Tryz.prog 46 #[v,.int .i64 n] w fun e w'=>e= .returned (.bool (qco l n))∧w=w':=by
 obtain ⟨a,cap,rfl,hm⟩:=hv.shape;have HV:=Xw hv;clear hv;go_enter Tryz.func46,Tryz.ntmps46;go_wp2_with fail;go_loop [4,6,9] (fun v4 v6 i=>∃ k:Nat,k≤l.length∧i= .int .i64 k∧v4= .bool false∧qco (l.take k) n=false) (fun _ _ i=>l.length-(intOf i).toNat)
 case atStart=>exact ⟨0,Ag _,rfl,rfl,rfl⟩
 case round =>
  obtain ⟨k,hk,rfl,rfl,ht⟩:=hrel;by_cases hlt:k<l.length
  ·obtain ⟨x,hx⟩:=qdp hlt;obtain ⟨b,off,rfl,hs,hbs,hc⟩:=HV.out.at hx;have HX:=Xw (ql1 hx);have HT:=Xw ht;have HX2:=Xw hx;clear ht hx;by_cases hxn:x=n
   ·have hb:(x==n)=true:=by simp [hxn]
    have HN:=Xw hxn;clear hxn;go_wp2_with fail;go_ret;exact ⟨qal (by unfold qco;exact (Dr.2 ⟨x,X7 HX2.out,by simpa using HN.out⟩).symm),rfl⟩
   ·have hb:(x==n)=false:=by simp [hxn]
    have HN:=Xw hxn;clear hxn;go_wp2_with fail;go_round
    case rel=>exact ⟨k+1,by omega,by go_num,rfl,by rw [HX.out];unfold qco;rw [Dv];simp only [qco] at HT;rw [HT.out];simpa using hb⟩
    case measure=>simp [intOf];omega
  ·have hkl:k=l.length:=by omega
   have HT:qco l n=false:=by rw [hkl] at ht;simpa using ht
   have HT2:=Xw HT;clear ht HT hkl;go_wp2_with fail;go_ret;exact ⟨qal HT2.out.symm,rfl⟩
def qag (l:List GOp) (s:Int):Bool:=l.any fun o=>qa4 o.key==s
theorem qr5 (l:List GOp) (k:Nat) (o:GOp) (s:Int) (h:l[k]? = some o):qag (l.take (k+1)) s=(qag (l.take k) s||qa4 o.key==s):=by
 rw [ql1 h];unfold qag;rw [Dv];simp
theorem q4r (l:List GOp) (k:Nat) (o:GOp) (s:Int) (h:l[k]? = some o) (hs:(qa4 o.key==s)=true):qag l s=true :=
 Dr.2 ⟨o,X7 h,hs⟩
theorem q1r {S:Nat→Prop} (v:Value) (l:List GOp) (s:Int) (w:World) (hv:ROps S w v l) :
 Calls Tryz.prog 67 #[v,.int .i64 s] w fun e w'=>e= .returned (.bool (qag l s))∧Below w.heap.size w w':=by
 obtain ⟨a,cap,rfl,hm⟩:=hv.shape;have Hhv:=Xw hv;clear hv;go_enter Tryz.func67,Tryz.ntmps67;go_wp2_with fail;go_loopw [4,9] (fun v4 i wr=>∃ k:Nat,k≤l.length∧i= .int .i64 k∧v4= .bool false∧qag (l.take k) s=false∧Below w.heap.size w wr) (fun _ i _=>l.length-(intOf i).toNat)
 case atStart=>exact ⟨0,Ag _,rfl,rfl,rfl,Below.refl _ _⟩
 case round =>
  obtain ⟨k,hk,rfl,rfl,ht,hb⟩:=hrel;by_cases hlt:k<l.length
  ·obtain ⟨o,ho⟩:=qdp hlt;obtain ⟨b,off,rfl,hs,hbs,h0,h1,h2⟩:=(Hhv.out.later hb).at ho;have HS:=Xw (qr5 l k o s ho);have Hho:=Xw ho;clear ho;have Hht:=Xw ht;clear ht;have HB:=Xw (hb.alloc hb.size (.cells #[.int .i64 o.kind,.int .i64 o.key,.int .i64 o.n] 99));clear hb;by_cases hx:(qa4 o.key==s)=true
   ·go_wp2_with (go_at_call 92;refine (qg3 _ _).mono ?_;rintro e w' ⟨rfl,rfl⟩);go_ret;exact ⟨qal (q4r l k o s Hho.out hx).symm,HB.out⟩
   ·have hx:(qa4 o.key==s)=false:=by simpa using hx
    go_wp2_with (go_at_call 92;refine (qg3 _ _).mono ?_;rintro e w' ⟨rfl,rfl⟩);go_roundw
    case rel=>exact ⟨k+1,by omega,by go_num,rfl,by rw [HS.out,Hht.out,hx];rfl,HB.out⟩
    case measure=>simp [intOf];omega
  ·have hkl:k=l.length:=by omega
   have HT:qag l s=false:=by rw [hkl] at ht;simpa using ht
   have HHT:=Xw HT;clear HT;have Hhb:=Xw hb;clear hb;clear ht hkl;go_wp2_with fail;go_ret;exact ⟨qal HHT.out.symm,Hhb.out⟩
theorem qsx {S:Nat→Prop} (v:Value) (l:List GOp) (s:Int) (w:World) (hv:ROps S w v l) :
 Calls Tryz.prog 47 #[v,.int .i64 s] w fun e w'=>e= .returned (.bool (qag l s))∧Below w.heap.size w w':=by
 obtain ⟨a,cap,rfl,hm⟩:=hv.shape;have Hhv:=Xw hv;clear hv;go_enter Tryz.func47,Tryz.ntmps47;go_wp2_with fail;go_loopw [5,10] (fun v5 i wr=>∃ k:Nat,k≤l.length∧i= .int .i64 k∧v5= .bool (qag (l.take k) s)∧Below w.heap.size w wr) (fun _ i _=>l.length-(intOf i).toNat)
 case atStart=>exact ⟨0,Ag _,rfl,rfl,Below.refl _ _⟩
 case round =>
  obtain ⟨k,hk,rfl,rfl,hb⟩:=hrel;by_cases hlt:k<l.length
  ·obtain ⟨o,ho⟩:=qdp hlt;obtain ⟨b,off,rfl,hs,hbs,h0,h1,h2⟩:=(Hhv.out.later hb).at ho;have HS:=Xw (qr5 l k o s ho);have Hho:=Xw ho;clear ho;have HB:=Xw (hb.alloc hb.size (.cells #[.int .i64 o.kind,.int .i64 o.key,.int .i64 o.n] 99));clear hb;generalize qag (l.take k) s=tk at *;cases tk
   ·go_wp2_with (go_at_call 58;refine (qdr _ _).mono ?_;rintro e w' ⟨rfl,rfl⟩);go_roundw
    case rel=>exact ⟨k+1,by omega,by go_num,by rw [HS.out];rfl,HB.out⟩
    case measure=>simp [intOf];omega
   ·go_wp2_with fail;go_roundw
    case rel=>exact ⟨k+1,by omega,by go_num,by rw [HS.out];rfl,HB.out⟩
    case measure=>simp [intOf];omega
  ·have hkl:k=l.length:=by omega
   subst hkl;have Hhb:=Xw hb;clear hb;go_wp2_with fail;go_ret;exact ⟨qal (by simp),Hhb.out⟩
def qdo (f:Nat→Bool) (n:Nat):Bool:=(List.range n).all f
theorem qh7 (f:Nat→Bool) (n:Nat):qdo f (n+1)=(qdo f n&&f n):=by unfold qdo;rw [Ez,List.all_append];simp
theorem qfd (f:Nat→Bool) (n:Nat):qdo f n=true↔∀ i,i<n→f i=true:=by unfold qdo;simp
theorem qpo {f:Nat→Bool} {k n:Nat} (h:f k=false) (hk:k<n):qdo f n=false:=by
 cases he:qdo f n
 ·rfl
 ·have:=(qfd f n).1 he k hk;rw [h] at this;cases this
def qhs (l:List Int) (i:Nat):Bool:=decide (0≤l.getD i 0)&&decide (l.getD i 0<32)&&(i==0||decide (l.getD (i-1) 0<l.getD i 0))
def qam (l:List Int):Bool:=qdo (qhs l) l.length
theorem qev {α : Type} {l:List α} {k:Nat} {x d : α} (h:l[k]? = some x):l.getD k d=x:=by simp [h]
theorem q4s {S:Nat→Prop} (v:Value) (l:List Int) (w:World) (hv:RInts S w v l) :
 Calls Tryz.prog 94 #[v] w fun e w'=>e= .returned (.bool (qam l))∧w=w':=by
 obtain ⟨a,cap,rfl,hm⟩:=hv.shape;have Hhv:=Xw hv;clear hv;go_enter Tryz.func94,Tryz.ntmps94;go_wp2_with fail;go_loop [7] (fun i=>∃ k:Nat,k≤l.length∧i= .int .i64 k∧qdo (qhs l) k=true) (fun i=>l.length-(intOf i).toNat)
 case atStart=>exact ⟨0,Ag _,rfl,rfl⟩
 case round =>
  obtain ⟨k,hk,rfl,ht⟩:=hrel;by_cases hlt:k<l.length
  ·obtain ⟨x,hx⟩:=qdp hlt;obtain ⟨y,hy⟩:=qdp (show k-1<l.length by omega);obtain ⟨b,off,rfl,hs,hbs,h0⟩:=Hhv.out.at hx;obtain ⟨b1,off1,hab,hs1,hbs1,h1⟩:=Hhv.out.at hy;simp only [Option.some.injEq,Addr.mk.injEq] at hab;obtain ⟨rfl,rfl,_⟩:=hab;have hno:(x<0∨32≤x∨(0<k∧x≤y))→qam l=false:=fun h=>qpo (f:=qhs l) (k:=k) (by unfold qhs;rw [qev hx,qev hy];rcases h with h | h | ⟨h,h'⟩<;>simp<;>omega) hlt;have hyes:0≤x→x<32→(k=0∨y<x)→qdo (qhs l) (k+1)=true:=fun h1 h2 h3=>by rw [qh7,ht];unfold qhs;rw [qev hx,qev hy];rcases h3 with h3 | h3<;>simp [h1,h2,h3]
   have Hhno:=Xw hno;clear hno;have Hhyes:=Xw hyes;clear hyes;have Hht:=Xw ht;clear ht;have Hhx:=Xw hx;clear hx;have Hhy:=Xw hy;clear hy;by_cases hk0:k=0
   ·subst hk0;rw [B9] at h0;by_cases hx0:x<0
    ·go_wp2_with fail;go_ret;exact ⟨qal (Hhno.out (.inl hx0)).symm,rfl⟩
    ·by_cases hx1:32≤x
     ·go_wp2_with fail;go_ret;exact ⟨qal (Hhno.out (.inr (.inl hx1))).symm,rfl⟩
     ·go_wp2_with fail;go_round
      case rel=>exact ⟨0+1,by omega,by go_num,Hhyes.out E8 E8 E8⟩
      case measure=>simp [intOf];omega
   ·by_cases hx0:x<0
    ·go_wp2_with fail;go_ret;exact ⟨qal (Hhno.out (.inl hx0)).symm,rfl⟩
    ·by_cases hx1:32≤x
     ·go_wp2_with fail;go_ret;exact ⟨qal (Hhno.out (.inr (.inl hx1))).symm,rfl⟩
     ·by_cases hxy:x≤y
      ·go_wp2_with fail;go_ret;exact ⟨qal (Hhno.out (.inr (.inr ⟨by omega,hxy⟩))).symm,rfl⟩
      ·go_wp2_with fail;go_round
       case rel=>exact ⟨k+1,by omega,by go_num,Hhyes.out E8 E8 E8⟩
       case measure=>simp [intOf];omega
  ·have hkl:k=l.length:=by omega
   have HT:qam l=true:=by rw [hkl] at ht;exact ht
   have HHT:=Xw HT;clear HT;clear ht hkl;go_wp2_with fail;go_ret;exact ⟨qal HHT.out.symm,rfl⟩
theorem qzg {S:Nat→Prop} (v:Value) (l:List Int) (w:World) (hv:RInts S w v l) :
 Calls Tryz.prog 75 #[v] w fun e w'=>e= .returned (.bool (qam l))∧w=w':=by
 obtain ⟨a,cap,rfl,hm⟩:=hv.shape;have Hhv:=Xw hv;clear hv;go_enter Tryz.func75,Tryz.ntmps75;go_wp2_with fail;go_loop [3,8] (fun last i=>∃ k:Nat,k≤l.length∧i= .int .i64 k∧∃ p:Int,last= .int .i64 p ∧ -1≤p∧(0<k→p=l.getD (k-1) 0)∧(k=0→p = -1)∧qdo (qhs l) k=true) (fun _ i=>l.length-(intOf i).toNat)
 case atStart=>exact ⟨0,Ag _,rfl,-1,rfl,by omega,by omega,by omega,rfl⟩
 case round =>
  obtain ⟨k,hk,rfl,p,rfl,hp1,hp2,hp3,ht⟩:=hrel;by_cases hlt:k<l.length
  ·obtain ⟨x,hx⟩:=qdp hlt;obtain ⟨b,off,rfl,hs,hbs,h0⟩:=Hhv.out.at hx;have hno:(x≤p∨¬ (0≤x∧x<32))→qam l=false:=fun h=>qpo (f:=qhs l) (k:=k) (by
    unfold qhs;rw [qev hx]
    by_cases hk0:k=0
    ·have:=hp3 hk0
     rcases h with h | h<;>simp<;>omega
    ·have:=hp2 E8
     rw [← this]
     rcases h with h | h<;>simp<;>omega) hlt
   have hyes:p<x→0≤x→x<32→qdo (qhs l) (k+1)=true:=fun h1 h2 h3=>by
    rw [qh7,ht];unfold qhs;rw [qev hx];by_cases hk0:k=0
    ·simp [h2,h3,hk0]
    ·rw [← hp2 E8];simp [h1,h2,h3]
   have hxl:x=l.getD (k+1-1) 0:=by simp [hx]
   have Hhno:=Xw hno;clear hno;have Hhyes:=Xw hyes;clear hyes;have Hht:=Xw ht;clear ht;have Hhx:=Xw hx;clear hx;have Hhp2:=Xw hp2;clear hp2;have Hhp3:=Xw hp3;clear hp3;have Hhxl:=Xw hxl;clear hxl;by_cases hxp:x≤p
   ·go_wp2_with (go_at_call 42;refine (qpn _ _).mono ?_;rintro e w' ⟨rfl,rfl⟩);go_ret;exact ⟨qal (Hhno.out (.inl hxp)).symm,rfl⟩
   ·by_cases hx0:0≤x∧x<32
    ·have hd:decide (0≤x∧x<32)=true:=by simpa using hx0
     go_wp2_with (go_at_call 42;refine (qpn _ _).mono ?_;rintro e w' ⟨rfl,rfl⟩);go_round
     case rel=>exact ⟨k+1,by omega,by go_num,x,rfl,by omega,fun _=>Hhxl.out,by omega,Hhyes.out E8 E8 E8⟩
     case measure=>simp [intOf];omega
    ·have hd:decide (0≤x∧x<32)=false:=by simpa using hx0
     have HX0:=Xw hx0;clear hx0;go_wp2_with (go_at_call 42;refine (qpn _ _).mono ?_;rintro e w' ⟨rfl,rfl⟩);go_ret;exact ⟨qal (Hhno.out (.inr HX0.out)).symm,rfl⟩
  ·have hkl:k=l.length:=by omega
   have HT:qam l=true:=by rw [hkl] at ht;exact ht
   have HHT:=Xw HT;clear HT;have Hhp2:=Xw hp2;clear hp2;have Hhp3:=Xw hp3;clear hp3;clear ht hkl;go_wp2_with fail;go_ret;exact ⟨qal HHT.out.symm,rfl⟩
def qkr (l m:List Int):Bool:=l.length==m.length&&qdo (fun i=>l.getD i 0==m.getD i 0) l.length
theorem q4t (l:List Int):qkr l l=true:=by unfold qkr;simp [qdo]
theorem qtp {S S':Nat→Prop} (v u:Value) (l m:List Int) (w:World) (hv:RInts S w v l) (hu:RInts S' w u m) :
 Calls Tryz.prog 17 #[v,u] w fun e w'=>e= .returned (.bool (qkr l m))∧∃ n,w'=w.drewN n:=by
 obtain ⟨a,cap,rfl,hm⟩:=hv.shape;obtain ⟨a2,cap2,rfl,hm2⟩:=hu.shape;by_cases hlen:l.length=m.length
 ·have hb:((l.length:Int) != (m.length:Int))=false:=by simp [hlen]
  have Hhv:=Xw hv;clear hv;have Hhu:=Xw hu;clear hu;have Hhlen:=Xw hlen;clear hlen;go_enter Tryz.func17,Tryz.ntmps17;go_wp2_with fail;go_loopw [13] (fun i wr=>∃ k:Nat,k≤l.length∧i= .int .i64 k∧qdo (fun i=>l.getD i 0==m.getD i 0) k=true∧∃ n,wr=w.drewN n) (fun i _=>l.length-(intOf i).toNat)
  case atStart=>exact ⟨0,Ag _,rfl,rfl,0,rfl⟩
  case round =>
   obtain ⟨k,hk,rfl,ht,nd,rfl⟩:=hrel;by_cases hlt:k<l.length
   ·obtain ⟨x,hx⟩:=qdp hlt;obtain ⟨y,hy⟩:=qdp (show k<m.length by have:=Hhlen.out;omega);obtain ⟨b,off,rfl,hs,hbs,h0⟩:=Hhv.out.at hx;obtain ⟨b1,off1,rfl,hs1,hbs1,h1⟩:=Hhu.out.at hy;have hlt2:k<m.length:=by have:=Hhlen.out;omega
    have hno:x≠y→qkr l m=false:=fun h=>by unfold qkr;rw [qpo (f:=fun i=>l.getD i 0==m.getD i 0) (k:=k) (by show (l.getD k 0==m.getD k 0)=false;rw [qev hx,qev hy];simpa using h) hlt];simp
    have hyes:x=y→qdo (fun i=>l.getD i 0==m.getD i 0) (k+1)=true:=fun h=>by rw [qh7,ht,qev hx,qev hy];simp [h]
    have Hhno:=Xw hno;clear hno;have Hhyes:=Xw hyes;clear hyes;have Hht:=Xw ht;clear ht;have Hhx:=Xw hx;clear hx;have Hhy:=Xw hy;clear hy;by_cases hxy:x=y
    ·have hd:(x != y)=false:=by simp [hxy]
     have Hhxy:=Xw hxy;clear hxy;go_wp2_with fail;go_quiet (fail);go_wp2_with fail;go_roundw
     case rel=>exact ⟨k+1,by omega,by go_num,Hhyes.out Hhxy.out,(by first | exact ⟨_,rfl⟩ | exact ⟨_,qtl _ _ _⟩)⟩
     case measure=>simp [intOf];omega
    ·have hd:(x != y)=true:=by simp [hxy]
     have Hhxy:=Xw hxy;clear hxy;go_wp2_with fail;go_quiet (fail);go_wp2_with fail;go_ret;exact ⟨qal (Hhno.out Hhxy.out).symm,(by first | exact ⟨_,rfl⟩ | exact ⟨_,qtl _ _ _⟩)⟩
   ·have hkl:k=l.length:=by omega
    have HT:qkr l m=true:=by rw [hkl] at ht;unfold qkr;rw [ht];simp [Hhlen.out]
    have HHT:=Xw HT;clear HT;clear ht hkl;go_wp2_with fail;go_ret;exact ⟨qal HHT.out.symm,_,rfl⟩
 ·have hb:((l.length:Int) != (m.length:Int))=true:=by simp;omega
  have hr:qkr l m=false:=by unfold qkr;simp [hlen]
  have Hhv:=Xw hv;clear hv;have Hhu:=Xw hu;clear hu;have Hhlen:=Xw hlen;clear hlen;have Hhr:=Xw hr;clear hr;go_enter Tryz.func17,Tryz.ntmps17;go_wp2_with fail;go_ret;exact ⟨qal Hhr.out.symm,0,rfl⟩
abbrev A2 := @Bool.eq_false_or_eq_true
abbrev A9 := @Bool.false_or
def qoe (s:Int) (x y:GOp):Bool:=x.key==y.key&&(qa4 x.key==s&&(x.kind != 1||y.kind != 1))
def qdb (a b:List GOp) (s:Int):Bool:=a.any fun x=>b.any fun y=>qoe s x y
theorem qs3 {α : Type} {l:List α} {k:Nat} {o : α} (f : α → Bool) (h:l[k]? = some o):(l.take (k+1)).any f=((l.take k).any f||f o):=by
 rw [ql1 h,Dv];simp
theorem q6x {α : Type} {l:List α} {k:Nat} {o : α} (f : α → Bool) (h:l[k]? = some o) (hs:f o=true):l.any f=true :=
 Dr.2 ⟨o,X7 h,hs⟩
set_option maxHeartbeats 1000000 in
theorem qzh {S S':Nat→Prop} (v u:Value) (a b:List GOp) (s:Int) (w:World) (hv:ROps S w v a) (hu:ROps S' w u b) :
 Calls Tryz.prog 104 #[v,u,.int .i64 s] w fun e w'=>e= .returned (.bool (qdb a b s))∧Below w.heap.size w w':=by
 obtain ⟨aa,cap,rfl,hm⟩:=hv.shape;obtain ⟨ab,cap2,rfl,hm2⟩:=hu.shape;have Hhv:=Xw hv;clear hv;have Hhu:=Xw hu;clear hu;go_enter Tryz.func104,Tryz.ntmps104;go_wp2_with fail;go_loopw [6,13] (fun v6 i wr=>∃ k:Nat,k≤a.length∧i= .int .i64 k∧v6= .bool false∧(a.take k).any (fun x=>b.any fun y=>qoe s x y)=false∧Below w.heap.size w wr) (fun _ i _=>a.length-(intOf i).toNat)
 case atStart=>exact ⟨0,Ag _,rfl,rfl,rfl,Below.refl _ _⟩
 case round =>
  obtain ⟨k,hk,rfl,rfl,ht,hb⟩:=hrel;by_cases hlt:k<a.length
  ·obtain ⟨x,hx⟩:=qdp hlt;obtain ⟨bx,offx,rfl,hs,hbs,h0,h1,h2⟩:=(Hhv.out.later hb).at hx;have HS:=Xw (qs3 (fun x=>b.any fun y=>qoe s x y) hx);have hno:=q6x (fun x=>b.any fun y=>qoe s x y) hx;obtain ⟨wo,rfl⟩:∃ wo:World,wo=wr:=⟨_,rfl⟩;obtain ⟨W1,hW1⟩:∃ W1,W1=wo.alloc (.cells #[.int .i64 x.kind,.int .i64 x.key,.int .i64 x.n] 99):=⟨_,rfl⟩;have hb1:Below w.heap.size w W1:=by rw [hW1];exact hb.alloc hb.size _
   have hc0:W1.cell? ⟨wo.heap.size,0,none⟩=some (.int .i64 x.kind):=by rw [hW1];go_simp
   have hc1:W1.cell? ⟨wo.heap.size,1,none⟩=some (.int .i64 x.key):=by rw [hW1];go_simp
   have hsz:wo.heap.size<W1.heap.size:=by rw [hW1];simp
   have Hhx:=Xw hx;clear hx;have Hht:=Xw ht;clear ht;have Hhb:=Xw hb;clear hb;have Hhno:=Xw hno;clear hno;have HhW1:=Xw hW1;clear hW1;have Hhb1:=Xw hb1;clear hb1;have Hhc0:=Xw hc0;clear hc0;have Hhc1:=Xw hc1;clear hc1;go_wp2_with fail;rw [← HhW1.out];go_loopw [6,19] (fun v6 i wr=>∃ j:Nat,j≤b.length∧i= .int .i64 j∧v6= .bool false∧(b.take j).any (fun y=>qoe s x y)=false∧Below W1.heap.size W1 wr) (fun _ i _=>b.length-(intOf i).toNat)
   case atStart=>exact ⟨0,Ag _,rfl,rfl,rfl,Below.refl _ _⟩
   case round =>
    obtain ⟨j,hj,rfl,rfl,hty,hb2⟩:=hrel;clear h0 h1 h2 hs hbs;have hbw:Below w.heap.size w wr:=Hhb1.out.trans (hb2.mono Hhb1.out.size);by_cases hjt:j<b.length
    ·obtain ⟨y,hy⟩:=qdp hjt;obtain ⟨bY,offY,rfl,hs,hbs,h0,h1,h2⟩:=(Hhu.out.later hbw).at hy;have HY:=Xw (qs3 (fun y=>qoe s x y) hy);have g0:wr.cell? ⟨wo.heap.size,0,none⟩=some (.int .i64 x.kind):=by rw [hb2.cell (p:=⟨wo.heap.size,0,none⟩) hsz];exact Hhc0.out
     have g1:wr.cell? ⟨wo.heap.size,1,none⟩=some (.int .i64 x.key):=by rw [hb2.cell (p:=⟨wo.heap.size,1,none⟩) hsz];exact Hhc1.out
     have hwz:wo.heap.size<wr.heap.size:=A1 hsz hb2.size;have HB2:=Xw (hb2.alloc hb2.size (.cells #[.int .i64 y.kind,.int .i64 y.key,.int .i64 y.n] 99));have Hhy:=Xw hy;clear hy;have Hhty:=Xw hty;clear hty;have Hhbw:=Xw hbw;clear hbw;clear hb2 hs hbs;rcases A2 (x.key==y.key) with c1 | c1
     ·rcases A2 (qa4 x.key==s) with c2 | c2
      ·rcases A2 (x.kind != 1) with c3 | c3
       ·have hw:qoe s x y=true:=by unfold qoe;rw [c1,c2,c3];rfl
        have Hhw:=Xw hw;clear hw;go_wp2_with (go_at_call 92;refine (qg3 _ _).mono ?_;rintro e w' ⟨rfl,rfl⟩);go_ret;exact ⟨qal (Hhno.out (q6x (fun y=>qoe s x y) Hhy.out Hhw.out)).symm,Hhb1.out.trans (HB2.out.mono Hhb1.out.size)⟩
       ·rcases A2 (y.kind != 1) with c4 | c4
        ·have hw:qoe s x y=true:=by unfold qoe;rw [c1,c2,c3,c4];rfl
         have Hhw:=Xw hw;clear hw;go_wp2_with (go_at_call 92;refine (qg3 _ _).mono ?_;rintro e w' ⟨rfl,rfl⟩);go_ret;exact ⟨qal (Hhno.out (q6x (fun y=>qoe s x y) Hhy.out Hhw.out)).symm,Hhb1.out.trans (HB2.out.mono Hhb1.out.size)⟩
        ·have hw:qoe s x y=false:=by unfold qoe;rw [c1,c2,c3,c4];rfl
         have Hhw:=Xw hw;clear hw;go_wp2_with (go_at_call 92;refine (qg3 _ _).mono ?_;rintro e w' ⟨rfl,rfl⟩);go_roundw
         case rel=>exact ⟨j+1,by omega,by go_num,rfl,by rw [HY.out,Hhty.out,Hhw.out];rfl,HB2.out⟩
         case measure=>simp [intOf];omega
      ·have hw:qoe s x y=false:=by unfold qoe;rw [c1,c2];rfl
       have Hhw:=Xw hw;clear hw;go_wp2_with (go_at_call 92;refine (qg3 _ _).mono ?_;rintro e w' ⟨rfl,rfl⟩);go_roundw
       case rel=>exact ⟨j+1,by omega,by go_num,rfl,by rw [HY.out,Hhty.out,Hhw.out];rfl,HB2.out⟩
       case measure=>simp [intOf];omega
     ·have hw:qoe s x y=false:=by unfold qoe;rw [c1];rfl
      have Hhw:=Xw hw;clear hw;go_wp2_with (go_at_call 92;refine (qg3 _ _).mono ?_;rintro e w' ⟨rfl,rfl⟩);go_roundw
      case rel=>exact ⟨j+1,by omega,by go_num,rfl,by rw [HY.out,Hhty.out,Hhw.out];rfl,HB2.out⟩
      case measure=>simp [intOf];omega
    ·have hkl:j=b.length:=by omega
     have HT:(b.any fun y=>qoe s x y)=false:=by rw [hkl] at hty;simpa using hty
     have HHT:=Xw HT;clear HT;have Hhb2:=Xw hb2;clear hb2;have Hhbw:=Xw hbw;clear hbw;clear hty hkl;go_wp2_with fail;go_roundw
     case rel=>exact ⟨k+1,by omega,by go_num,rfl,by rw [HS.out,Hht.out,HHT.out];rfl,Hhbw.out⟩
     case measure=>simp [intOf];omega
  ·have hkl:k=a.length:=by omega
   have HT:qdb a b s=false:=by rw [hkl] at ht;simpa [qdb] using ht
   have HHT:=Xw HT;clear HT;have Hhb:=Xw hb;clear hb;clear ht hkl;go_wp2_with fail;go_ret;exact ⟨qal HHT.out.symm,Hhb.out⟩
set_option maxHeartbeats 1000000 in
theorem q6y {S S':Nat→Prop} (v u:Value) (a b:List GOp) (s:Int) (w:World) (hv:ROps S w v a) (hu:ROps S' w u b) :
 Calls Tryz.prog 97 #[v,u,.int .i64 s] w fun e w'=>e= .returned (.bool (qdb a b s))∧Below w.heap.size w w':=by
 obtain ⟨aa,cap,rfl,hm⟩:=hv.shape;obtain ⟨ab,cap2,rfl,hm2⟩:=hu.shape;have Hhv:=Xw hv;clear hv;have Hhu:=Xw hu;clear hu;go_enter Tryz.func97,Tryz.ntmps97;go_wp2_with fail;go_loopw [7,14] (fun v7 i wr=>∃ k:Nat,k≤a.length∧i= .int .i64 k∧v7= .bool ((a.take k).any (fun x=>b.any fun y=>qoe s x y))∧Below w.heap.size w wr) (fun _ i _=>a.length-(intOf i).toNat)
 case atStart=>exact ⟨0,Ag _,rfl,rfl,Below.refl _ _⟩
 case round =>
  obtain ⟨k,hk,rfl,rfl,hb⟩:=hrel;by_cases hlt:k<a.length
  ·obtain ⟨x,hx⟩:=qdp hlt;obtain ⟨bx,offx,rfl,hs,hbs,h0,h1,h2⟩:=(Hhv.out.later hb).at hx;have HS:=Xw (qs3 (fun x=>b.any fun y=>qoe s x y) hx);obtain ⟨wo,rfl⟩:∃ wo:World,wo=wr:=⟨_,rfl⟩;obtain ⟨W1,hW1⟩:∃ W1,W1=wo.alloc (.cells #[.int .i64 x.kind,.int .i64 x.key,.int .i64 x.n] 99):=⟨_,rfl⟩;have hb1:Below w.heap.size w W1:=by rw [hW1];exact hb.alloc hb.size _
   have hc0:W1.cell? ⟨wo.heap.size,0,none⟩=some (.int .i64 x.kind):=by rw [hW1];go_simp
   have hc1:W1.cell? ⟨wo.heap.size,1,none⟩=some (.int .i64 x.key):=by rw [hW1];go_simp
   have hsz:wo.heap.size<W1.heap.size:=by rw [hW1];simp
   generalize hP:(a.take k).any (fun x=>b.any fun y=>qoe s x y)=p at *;have Hhx:=Xw hx;clear hx;have Hhb:=Xw hb;clear hb;have HhW1:=Xw hW1;clear hW1;have Hhb1:=Xw hb1;clear hb1;have Hhc0:=Xw hc0;clear hc0;have Hhc1:=Xw hc1;clear hc1;have HhP:=Xw hP;clear hP;go_wp2_with fail;rw [← HhW1.out];go_loopw [7,20] (fun v7 i wr=>∃ j:Nat,j≤b.length∧i= .int .i64 j∧v7= .bool (p||(b.take j).any (fun y=>qoe s x y))∧Below W1.heap.size W1 wr) (fun _ i _=>b.length-(intOf i).toNat)
   case atStart=>exact ⟨0,Ag _,rfl,by simp,Below.refl _ _⟩
   case round =>
    obtain ⟨j,hj,rfl,rfl,hb2⟩:=hrel;clear h0 h1 h2 hs hbs;have hbw:Below w.heap.size w wr:=Hhb1.out.trans (hb2.mono Hhb1.out.size);by_cases hjt:j<b.length
    ·obtain ⟨y,hy⟩:=qdp hjt;obtain ⟨bY,offY,rfl,hs,hbs,h0,h1,h2⟩:=(Hhu.out.later hbw).at hy;have HY:=Xw (qs3 (fun y=>qoe s x y) hy);have g0:wr.cell? ⟨wo.heap.size,0,none⟩=some (.int .i64 x.kind):=by rw [hb2.cell (p:=⟨wo.heap.size,0,none⟩) hsz];exact Hhc0.out
     have g1:wr.cell? ⟨wo.heap.size,1,none⟩=some (.int .i64 x.key):=by rw [hb2.cell (p:=⟨wo.heap.size,1,none⟩) hsz];exact Hhc1.out
     have hwz:wo.heap.size<wr.heap.size:=A1 hsz hb2.size;have HB2:=Xw (hb2.alloc hb2.size (.cells #[.int .i64 y.kind,.int .i64 y.key,.int .i64 y.n] 99));have Hhy:=Xw hy;clear hy;have Hhbw:=Xw hbw;clear hbw;clear hb2 hs hbs;generalize (b.take j).any (fun y=>qoe s x y)=q at *;have hor:∀ c,(p||q)=c→(p||(q||qoe s x y))=(c||qoe s x y):=fun c hc=>by rw [← hc,Bool.or_assoc]
     generalize hr:(p||q)=r at *;have hw0:=hor r rfl;clear hor;cases r
     ·simp only [A9] at hw0;rcases A2 (x.key==y.key) with c1 | c1
      ·rcases A2 (qa4 x.key==s) with c2 | c2
       ·rcases A2 (x.kind==1) with c3 | c3
        ·rcases A2 (y.kind==1) with c4 | c4
         ·have hw:=hw0.trans (show _=false by unfold qoe;rw [c1,c2];simp at c3 c4;simp [c3,c4]);clear hw0;have Hhw:=Xw hw;clear hw;have Hhr:=Xw hr;clear hr;go_wp2_with (go_at_call 58;refine (qdr _ _).mono ?_;rintro e w' ⟨rfl,rfl⟩);go_roundw
          case rel=>exact ⟨j+1,by omega,by go_num,by rw [HY.out];exact congrArg Value.bool Hhw.out.symm,HB2.out⟩
          case measure=>simp [intOf];omega
         ·have hw:=hw0.trans (show _=true by unfold qoe;rw [c1,c2];simp at c3 c4;simp [c3,c4]);clear hw0;have Hhw:=Xw hw;clear hw;have Hhr:=Xw hr;clear hr;go_wp2_with (go_at_call 58;refine (qdr _ _).mono ?_;rintro e w' ⟨rfl,rfl⟩);go_roundw
          case rel=>exact ⟨j+1,by omega,by go_num,by rw [HY.out];exact congrArg Value.bool Hhw.out.symm,HB2.out⟩
          case measure=>simp [intOf];omega
        ·have hw:=hw0.trans (show _=true by unfold qoe;rw [c1,c2];simp at c3;simp [c3]);clear hw0;have Hhw:=Xw hw;clear hw;have Hhr:=Xw hr;clear hr;go_wp2_with (go_at_call 58;refine (qdr _ _).mono ?_;rintro e w' ⟨rfl,rfl⟩);go_roundw
         case rel=>exact ⟨j+1,by omega,by go_num,by rw [HY.out];exact congrArg Value.bool Hhw.out.symm,HB2.out⟩
         case measure=>simp [intOf];omega
       ·have hw:=hw0.trans (show _=false by unfold qoe;rw [c1,c2];rfl);clear hw0;have Hhw:=Xw hw;clear hw;have Hhr:=Xw hr;clear hr;go_wp2_with (go_at_call 58;refine (qdr _ _).mono ?_;rintro e w' ⟨rfl,rfl⟩);go_roundw
        case rel=>exact ⟨j+1,by omega,by go_num,by rw [HY.out];exact congrArg Value.bool Hhw.out.symm,HB2.out⟩
        case measure=>simp [intOf];omega
      ·have hw:=hw0.trans (show _=false by unfold qoe;rw [c1];rfl);clear hw0;have Hhw:=Xw hw;clear hw;have Hhr:=Xw hr;clear hr;go_wp2_with (go_at_call 58;refine (qdr _ _).mono ?_;rintro e w' ⟨rfl,rfl⟩);go_roundw
       case rel=>exact ⟨j+1,by omega,by go_num,by rw [HY.out];exact congrArg Value.bool Hhw.out.symm,HB2.out⟩
       case measure=>simp [intOf];omega
     ·have hw:=hw0;clear hw0;simp only [Bool.true_or] at hw;have Hhw:=Xw hw;clear hw;have Hhr:=Xw hr;clear hr;go_wp2_with (go_at_call 58;refine (qdr _ _).mono ?_;rintro e w' ⟨rfl,rfl⟩);go_roundw
      case rel=>exact ⟨j+1,by omega,by go_num,by rw [HY.out];exact congrArg Value.bool Hhw.out.symm,HB2.out⟩
      case measure=>simp [intOf];omega
    ·have hkl:j=b.length:=by omega
     subst hkl;have Hhb2:=Xw hb2;clear hb2;have Hhbw:=Xw hbw;clear hbw;go_wp2_with fail;go_roundw
     case rel=>exact ⟨k+1,by omega,by go_num,by rw [HS.out,D9],Hhbw.out⟩
     case measure=>simp [intOf];omega
  ·have hkl:k=a.length:=by omega
   subst hkl;have Hhb:=Xw hb;clear hb;go_wp2_with fail;go_ret;exact ⟨qal (by unfold qdb;rw [D9]),Hhb.out⟩
abbrev D3 := @Array.getElem?_setIfInBounds_ne
def qcq (o:GOp):Bool:=decide (1≤o.kind∧o.kind≤3∧0≤o.key∧o.key<8 ∧ -1099511627776≤o.n∧o.n≤1099511627776∧(o.kind=1→o.n=0))
def qpp (l:List GOp) (k:Nat) (j:Int):Bool:=qdo (fun i=>(l.getD i default).key != j) k
def q8w (l:List GOp) (i:Nat):Bool:=qcq (l.getD i default)&&qpp l i (l.getD i default).key
def qaj (l:List GOp):Bool:=qdo (q8w l) l.length&&(decide (0<l.length)&&decide (l.length<5))
theorem qwh (l:List GOp) (k:Nat) (j:Int) (o:GOp) (h:l[k]? = some o):qpp l (k+1) j=(qpp l k j&&(o.key != j)):=by
 unfold qpp;rw [qh7,qev h]
theorem qwi (l:List GOp) (k:Nat) (o:GOp) (h:l[k]? = some o) (hlt:k<l.length) (hb:(qcq o&&qpp l k o.key)=false):qaj l=false:=by
 unfold qaj;rw [qpo (f:=q8w l) (k:=k) (by unfold q8w;rw [qev h];exact hb) hlt];rfl
set_option maxHeartbeats 1000000 in
theorem q1s {S:Nat→Prop} (v:Value) (l:List GOp) (w:World) (hv:ROps S w v l) :
 Calls Tryz.prog 83 #[v] w fun e w'=>e= .returned (.bool (qaj l))∧Below w.heap.size w w':=by
 obtain ⟨a,cap,rfl,hm⟩:=hv.shape;have Hhv:=Xw hv;clear hv;go_enter Tryz.func83,Tryz.ntmps83;go_wp2_with fail;go_loopw [8] (fun i wr=>∃ k:Nat,k≤l.length∧i= .int .i64 k∧qdo (q8w l) k=true∧Below w.heap.size w wr∧w.heap.size<wr.heap.size ∧
  ∃ cur,wr.heap[w.heap.size]? = some (.cells cur 147 (0,0))∧cur.size=8∧∀ j:Nat,j<8→cur[j]? = some (.bool (!qpp l k j))) (fun i _=>l.length-(intOf i).toNat)
 case atStart=>exact ⟨0,Ag _,rfl,rfl,by (repeat (first | exact Below.refl _ _ | assumption | refine Below.drewN ?_ _ | refine Below.drew ?_ | refine Below.alloc ?_ (by simp<;>omega) _)),by simp,_,heap_alloc_new _ _,rfl,fun j hj=>by
  match j,hj with
  | 0,_ | 1,_ | 2,_ | 3,_ | 4,_ | 5,_ | 6,_ | 7,_=>rfl⟩
 case round =>
  obtain ⟨k,hk,rfl,ht,hb,hsz,cur,hg,hc8,hcur⟩:=hrel;by_cases hlt:k<l.length
  ·obtain ⟨o,ho⟩:=qdp hlt;obtain ⟨b,off,rfl,hs,hbs,h0,h1,h2⟩:=(Hhv.out.later hb).at ho;have hno:=qwi l k o ho hlt;have HB:=Xw (hb.alloc hb.size (.cells #[.int .i64 o.kind,.int .i64 o.key,.int .i64 o.n] 99));have hyes:qcq o=true→qpp l k o.key=true→qdo (q8w l) (k+1)=true:=fun h1 h2=>by rw [qh7,ht];unfold q8w;rw [qev ho,h1,h2];rfl
   have Hhno:=Xw hno;clear hno;have Hhyes:=Xw hyes;clear hyes;have Hht:=Xw ht;clear ht;have Hhb:=Xw hb;clear hb;by_cases b1:o.kind<1
   ·have hz:qcq o=false:=by unfold qcq;simp;omega
    have Hhz:=Xw hz;clear hz;have Hhcur:=Xw hcur;clear hcur;have Hhg:=Xw hg;clear hg;have Hho:=Xw ho;clear ho;go_wp2_with fail;go_ret;exact ⟨qal (Hhno.out (by rw [Hhz.out];rfl)).symm,HB.out⟩
   ·by_cases b2:3<o.kind
    ·have hz:qcq o=false:=by unfold qcq;simp;omega
     have Hhz:=Xw hz;clear hz;have Hhcur:=Xw hcur;clear hcur;have Hhg:=Xw hg;clear hg;have Hho:=Xw ho;clear ho;go_wp2_with fail;go_ret;exact ⟨qal (Hhno.out (by rw [Hhz.out];rfl)).symm,HB.out⟩
    ·by_cases b3:o.key<0
     ·have hz:qcq o=false:=by unfold qcq;simp;omega
      have Hhz:=Xw hz;clear hz;have Hhcur:=Xw hcur;clear hcur;have Hhg:=Xw hg;clear hg;have Hho:=Xw ho;clear ho;go_wp2_with fail;go_ret;exact ⟨qal (Hhno.out (by rw [Hhz.out];rfl)).symm,HB.out⟩
     ·by_cases b4:8≤o.key
      ·have hz:qcq o=false:=by unfold qcq;simp;omega
       have Hhz:=Xw hz;clear hz;have Hhcur:=Xw hcur;clear hcur;have Hhg:=Xw hg;clear hg;have Hho:=Xw ho;clear ho;go_wp2_with fail;go_ret;exact ⟨qal (Hhno.out (by rw [Hhz.out];rfl)).symm,HB.out⟩
      ·have hkn:((o.key.toNat:Nat):Int)=o.key:=by omega
       have hcell:wr.cell? ⟨w.heap.size,o.key.toNat,none⟩=some (.bool (!qpp l k o.key)):=by
        rw [cell_of_row _ _ _ _ _ _ hg,hcur _ E8,hkn]
       have hfz:wr.frozen? ⟨w.heap.size,o.key.toNat,none⟩=false:=frozen_of_row _ _ _ _ _ hg;generalize hnew:qpp l k o.key=nw at *;cases nw
       ·have Hhcur:=Xw hcur;clear hcur;have Hhg:=Xw hg;clear hg;have Hho:=Xw ho;clear ho;have Hhkn:=Xw hkn;clear hkn;have Hhnew:=Xw hnew;clear hnew;go_wp2_with fail;go_ret;exact ⟨qal (Hhno.out (by simp)).symm,HB.out⟩
       ·by_cases b5:o.n < -1099511627776
        ·have hz:qcq o=false:=by unfold qcq;simp;omega
         have Hhz:=Xw hz;clear hz;have Hhcur:=Xw hcur;clear hcur;have Hhg:=Xw hg;clear hg;have Hho:=Xw ho;clear ho;have Hhkn:=Xw hkn;clear hkn;have Hhnew:=Xw hnew;clear hnew;go_wp2_with fail;go_ret;exact ⟨qal (Hhno.out (by rw [Hhz.out];rfl)).symm,HB.out⟩
        ·by_cases b6:1099511627776<o.n
         ·have hz:qcq o=false:=by unfold qcq;simp;omega
          have Hhz:=Xw hz;clear hz;have Hhcur:=Xw hcur;clear hcur;have Hhg:=Xw hg;clear hg;have Hho:=Xw ho;clear ho;have Hhkn:=Xw hkn;clear hkn;have Hhnew:=Xw hnew;clear hnew;go_wp2_with fail;go_ret;exact ⟨qal (Hhno.out (by rw [Hhz.out];rfl)).symm,HB.out⟩
         ·have hgo:wr.heap[w.heap.size]? = some (.cells cur 147 (0,0))→∃ cur',((wr.setCell ⟨w.heap.size,o.key.toNat,none⟩ (.bool true)).alloc (.cells #[.int .i64 o.kind,.int .i64 o.key,.int .i64 o.n] 99)).heap[w.heap.size]? = some (.cells cur' 147 (0,0))∧cur'.size=8∧∀ j:Nat,j<8→cur'[j]? = some (.bool (!qpp l (k+1) j)):=fun hg=>by
           refine ⟨cur.setIfInBounds o.key.toNat (.bool true),?_,by simpa using hc8,fun j hj=>?_⟩
           ·rw [Below.heap_alloc _ _ _ (by simpa [World.setCell] using hsz)];exact heap_setCell_same _ _ _ _ _ _ hg
           ·rw [qwh l k j o ho];by_cases hj2:j=o.key.toNat
            ·subst hj2;rw [hkn,hnew];simp [hc8,hj]
            ·have:(o.key != (j:Int))=true:=by simp;omega
             rw [this,D3 E8,hcur j hj];simp
          have hbz:Below w.heap.size w ((wr.setCell ⟨w.heap.size,o.key.toNat,none⟩ (.bool true)).alloc (.cells #[.int .i64 o.kind,.int .i64 o.key,.int .i64 o.n] 99)):=(Hhb.out.setCell (by simp) _).alloc (by simpa using Hhb.out.size) _;have hgo:=hgo hg;by_cases b7:o.kind=1
          ·have hb7:(o.kind==1)=true:=by simp [b7]
           by_cases b8:o.n=0
           ·have hb8:(o.n != 0)=false:=by simp [b8]
            have hz:qcq o=true:=by unfold qcq;simp;omega
            have Hhz:=Xw hz;clear hz;have Hhcur:=Xw hcur;clear hcur;have Hhg:=Xw hg;clear hg;have Hho:=Xw ho;clear ho;have Hhkn:=Xw hkn;clear hkn;have Hhnew:=Xw hnew;clear hnew;have Hb7:=Xw b7;clear b7;have Hb8:=Xw b8;clear b8;have Hhgo:=Xw hgo;clear hgo;have Hhbz:=Xw hbz;clear hbz;go_wp2_with fail;go_roundw
            case rel=>exact ⟨k+1,by omega,by go_num,Hhyes.out Hhz.out rfl,Hhbz.out,by simp;omega,Hhgo.out⟩
            case measure=>simp [intOf];omega
           ·have hb8:(o.n != 0)=true:=by simp [b8]
            have hz:qcq o=false:=by unfold qcq;simp;omega
            have Hhz:=Xw hz;clear hz;have Hhcur:=Xw hcur;clear hcur;have Hhg:=Xw hg;clear hg;have Hho:=Xw ho;clear ho;have Hhkn:=Xw hkn;clear hkn;have Hhnew:=Xw hnew;clear hnew;have Hb7:=Xw b7;clear b7;have Hb8:=Xw b8;clear b8;have Hhgo:=Xw hgo;clear hgo;have Hhbz:=Xw hbz;clear hbz;go_wp2_with fail;go_ret;exact ⟨qal (Hhno.out (by rw [Hhz.out];rfl)).symm,HB.out⟩
          ·have hb7:(o.kind==1)=false:=by simp [b7]
           have hz:qcq o=true:=by unfold qcq;simp;omega
           have Hhz:=Xw hz;clear hz;have Hhcur:=Xw hcur;clear hcur;have Hhg:=Xw hg;clear hg;have Hho:=Xw ho;clear ho;have Hhkn:=Xw hkn;clear hkn;have Hhnew:=Xw hnew;clear hnew;have Hb7:=Xw b7;clear b7;have Hhgo:=Xw hgo;clear hgo;have Hhbz:=Xw hbz;clear hbz;go_wp2_with fail;go_roundw
           case rel=>exact ⟨k+1,by omega,by go_num,Hhyes.out Hhz.out rfl,Hhbz.out,by simp;omega,Hhgo.out⟩
           case measure=>simp [intOf];omega
  ·have hkl:k=l.length:=by omega
   have HT:qaj l=(decide (0<l.length)&&decide (l.length<5)):=by rw [hkl] at ht;unfold qaj;rw [ht];rfl
   have HHT:=Xw HT;clear HT;have Hhb:=Xw hb;clear hb;have Hhcur:=Xw hcur;clear hcur;have Hhg:=Xw hg;clear hg;clear ht hkl;by_cases c1:0<l.length
   ·by_cases c2:l.length<5
    ·go_wp2_with fail;go_ret;exact ⟨qal (by rw [HHT.out];simp [c1,c2]<;>omega),Hhb.out⟩
    ·go_wp2_with fail;go_ret;exact ⟨qal (by rw [HHT.out];simp [c1,c2]<;>omega),Hhb.out⟩
   ·go_wp2_with fail;go_ret;exact ⟨qal (by rw [HHT.out];simp [c1]<;>omega),Hhb.out⟩
set_option maxHeartbeats 1000000 in
theorem q6z {S:Nat→Prop} (v:Value) (l:List GOp) (w:World) (hv:ROps S w v l) :
 Calls Tryz.prog 43 #[v] w fun e w'=>e= .returned (.bool (qaj l))∧Below w.heap.size w w':=by
 obtain ⟨a,cap,rfl,hm⟩:=hv.shape;have hcap:l.length≤cap:=by obtain ⟨a',cap',he,h1,_⟩:=hv;cases he;exact h1
 have Hhv:=Xw hv;clear hv;go_enter Tryz.func43,Tryz.ntmps43;go_wp2_with fail;go_loopw [9] (fun i wr=>∃ k:Nat,k≤l.length∧i= .int .i64 k∧qdo (q8w l) k=true∧Below w.heap.size w wr) (fun i _=>l.length-(intOf i).toNat)
 case atStart=>exact ⟨0,Ag _,rfl,rfl,Below.refl _ _⟩
 case round =>
  obtain ⟨k,hk,rfl,ht,hb⟩:=hrel;by_cases hlt:k<l.length
  ·obtain ⟨o,ho⟩:=qdp hlt;obtain ⟨b,off,rfl,hs,hbs,h0,h1,h2⟩:=(Hhv.out.later hb).at ho;have hno:=qwi l k o ho hlt;have hyes:qcq o=true→qpp l k o.key=true→qdo (q8w l) (k+1)=true:=fun h1 h2=>by rw [qh7,ht];unfold q8w;rw [qev ho,h1,h2];rfl
   obtain ⟨wo,rfl⟩:∃ wo:World,wo=wr:=⟨_,rfl⟩;obtain ⟨W1,hW1⟩:∃ W1,W1=wo.alloc (.cells #[.int .i64 o.kind,.int .i64 o.key,.int .i64 o.n] 99):=⟨_,rfl⟩;have hb1:Below w.heap.size w W1:=by rw [hW1];exact hb.alloc hb.size _
   have hc1:W1.cell? ⟨wo.heap.size,1,none⟩=some (.int .i64 o.key):=by rw [hW1];go_simp
   have hsz:wo.heap.size<W1.heap.size:=by rw [hW1];simp
   have Hhno:=Xw hno;clear hno;have Hhyes:=Xw hyes;clear hyes;have Hht:=Xw ht;clear ht;have Hhb:=Xw hb;clear hb;have Hho:=Xw ho;clear ho;have Hhb1:=Xw hb1;clear hb1;have Hhc1:=Xw hc1;clear hc1;have HhW1:=Xw hW1;clear hW1;by_cases hg:qcq o=true
   ·have hg2:=hg;unfold qcq at hg2;simp only [decide_eq_true_eq] at hg2;obtain ⟨b1,b2,b3,b4,b5,b6,b7⟩:=hg2;by_cases b8:o.kind=1
    all_goals
     first
     | (have hb8:(o.kind==1)=true:=by simp [b8]
        have hb9:(o.n != 0)=false:=by simp [b7 b8]
        have HX8:=Xw b8
        clear b8 b7)
     | (have hb8:(o.kind==1)=false:=by simp [b8]
        have HX8:=Xw b8
        clear b8 b7)
     have Hhg:=Xw hg;clear hg
     go_wp2_with fail
     rw [← HhW1.out]
     clear h0 h1 h2
     go_loopw [56] (fun i wr=>∃ j:Nat,j≤k∧i= .int .i64 j∧qpp l j o.key=true∧Below W1.heap.size W1 wr) (fun i _=>k-(intOf i).toNat)
     case atStart=>exact ⟨0,Ag _,rfl,rfl,Below.refl _ _⟩
     case round =>
      obtain ⟨j,hj,rfl,hty,hb2⟩:=hrel;have hbw:Below w.heap.size w wr:=Hhb1.out.trans (hb2.mono Hhb1.out.size);by_cases hjt:j<k
      ·obtain ⟨y,hy⟩:=qdp (show j<l.length by omega);obtain ⟨bY,offY,hab,hs,hbs,h0,h1,h2⟩:=(Hhv.out.later hbw).at hy;simp only [Option.some.injEq,Addr.mk.injEq] at hab;obtain ⟨rfl,rfl,_⟩:=hab;have g1:wr.cell? ⟨wo.heap.size,1,none⟩=some (.int .i64 o.key):=by rw [hb2.cell (p:=⟨wo.heap.size,1,none⟩) hsz];exact Hhc1.out
       have hwz:wo.heap.size<wr.heap.size:=A1 hsz hb2.size;have HB2:=Xw (hb2.alloc hb2.size (.cells #[.int .i64 y.kind,.int .i64 y.key,.int .i64 y.n] 99));have HN:=Xw (qwh l j o.key y hy);have hnw:(y.key==o.key)=true→qpp l k o.key=false:=fun h=>by
        unfold qpp;exact qpo (k:=j) (by rw [qev hy];simpa using h) hjt
       have Hhy:=Xw hy;clear hy;have Hhty:=Xw hty;clear hty;have Hhbw:=Xw hbw;clear hbw;have Hhnw:=Xw hnw;clear hnw;clear hb2 hs hbs;rcases A2 (y.key==o.key) with c1 | c1
       ·go_wp2_with fail;go_ret;exact ⟨qal (Hhno.out (by rw [Hhnw.out c1];simp)).symm,Hhb1.out.trans (HB2.out.mono Hhb1.out.size)⟩
       ·go_wp2_with fail;go_roundw
        case rel=>exact ⟨j+1,by omega,by go_num,by rw [HN.out,Hhty.out];simpa using c1,HB2.out⟩
        case measure=>simp [intOf];omega
      ·have hkl:j=k:=by omega
       subst hkl;have Hhb2:=Xw hb2;clear hb2;have Hhbw:=Xw hbw;clear hbw;have Hhty:=Xw hty;clear hty;go_wp2_with fail;go_roundw
       case rel=>exact ⟨j+1,by omega,by go_num,Hhyes.out Hhg.out Hhty.out,Hhbw.out⟩
       case measure=>simp [intOf];omega
   ·have hg0:qcq o=false:=by simpa using hg
    have hg2:=hg;unfold qcq at hg2;simp only [decide_eq_true_eq] at hg2;have Hhg0:=Xw hg0;clear hg0;have Hhg:=Xw hg;clear hg;by_cases b1:o.kind<1
    ·clear hg2;go_wp2_with fail;go_ret;exact ⟨qal (Hhno.out (by rw [Hhg0.out];rfl)).symm,by have:=Hhb1.out;rw [HhW1.out] at this;exact this⟩
    ·by_cases b2:3<o.kind
     ·clear hg2;go_wp2_with fail;go_ret;exact ⟨qal (Hhno.out (by rw [Hhg0.out];rfl)).symm,by have:=Hhb1.out;rw [HhW1.out] at this;exact this⟩
     ·by_cases b3:o.key<0
      ·clear hg2;go_wp2_with fail;go_ret;exact ⟨qal (Hhno.out (by rw [Hhg0.out];rfl)).symm,by have:=Hhb1.out;rw [HhW1.out] at this;exact this⟩
      ·by_cases b4:7<o.key
       ·clear hg2;go_wp2_with fail;go_ret;exact ⟨qal (Hhno.out (by rw [Hhg0.out];rfl)).symm,by have:=Hhb1.out;rw [HhW1.out] at this;exact this⟩
       ·by_cases b6:1099511627776<o.n
        ·clear hg2;go_wp2_with fail;go_ret;exact ⟨qal (Hhno.out (by rw [Hhg0.out];rfl)).symm,by have:=Hhb1.out;rw [HhW1.out] at this;exact this⟩
        ·by_cases b5:o.n < -1099511627776
         ·clear hg2;go_wp2_with fail;go_ret;exact ⟨qal (Hhno.out (by rw [Hhg0.out];rfl)).symm,by have:=Hhb1.out;rw [HhW1.out] at this;exact this⟩
         ·have b7:o.kind=1:=by omega
          have b8:o.n≠0:=by omega
          have hb8:(o.kind==1)=true:=by simp [b7]
          have hb9:(o.n != 0)=true:=by simp [b8]
          have Hb7:=Xw b7;clear b7;have Hb8:=Xw b8;clear b8;clear hg2;go_wp2_with fail;go_ret;exact ⟨qal (Hhno.out (by rw [Hhg0.out];rfl)).symm,by have:=Hhb1.out;rw [HhW1.out] at this;exact this⟩
  ·have hkl:k=l.length:=by omega
   have HT:qaj l=(decide (0<l.length)&&decide (l.length<5)):=by rw [hkl] at ht;unfold qaj;rw [ht];rfl
   have HHT:=Xw HT;clear HT;have Hhb:=Xw hb;clear hb;clear ht hkl;by_cases c1:0<l.length
   ·by_cases c2:l.length<5
    ·go_wp2_with fail;go_ret;exact ⟨qal (by rw [HHT.out];simp [c1,c2]<;>omega),Hhb.out⟩
    ·go_wp2_with fail;go_ret;exact ⟨qal (by rw [HHT.out];simp [c1,c2]<;>omega),Hhb.out⟩
   ·go_wp2_with fail;go_ret;exact ⟨qal (by rw [HHT.out];simp [c1]<;>omega),Hhb.out⟩
structure GFrame where
 kind:Int
 node:Int
 id:Int
 ops:List GOp
 deps:List Int
 at_:List Int
 vals:List Int
def qy8 (l:List Int) (i:Nat):Bool:=decide (0≤l.getD i 0)&&decide (l.getD i 0<4)&&(i==0||decide (l.getD (i-1) 0<l.getD i 0))
def qo4 (l:List Int) (i:Nat):Bool:=decide (-1099511627776≤l.getD i 0)&&decide (l.getD i 0≤1099511627776)
def qf4 (f:GFrame):Bool:=if f.kind=1∨f.kind=3 then qaj f.ops else f.ops.length==0
def qd6 (f:GFrame):Bool:=if f.kind=2∨f.kind=3 then qam f.deps && !qco f.deps f.id else f.deps.length==0
def qlp (f:GFrame):Bool:=(f.kind==5||f.at_.length==0)&&(f.at_.length==f.vals.length&&(qdo (qy8 f.at_) f.at_.length&&qdo (qo4 f.vals) f.vals.length))
def qaf (f:GFrame):Int :=
 if f.kind<1∨5<f.kind then 3 else if f.node<0∨6≤f.node∨f.id<0∨32≤f.id then 2
 else if (qf4 f&&(qd6 f&&qlp f))=true then 0 else 1
theorem ql3 {f:GFrame} (h1:¬ (f.kind<1∨5<f.kind)) (h2:¬ (f.node<0∨6≤f.node∨f.id<0∨32≤f.id)) (h:(qf4 f&&(qd6 f&&qlp f))=true):qaf f=0:=by
 unfold qaf;rw [if_neg h1,if_neg h2,if_pos h]
def RFrame (S:Nat→Prop) (w:World) (cs:Array Value) (f:GFrame):Prop :=
 ∃ vo vd va vv,cs = #[.int .i64 f.kind,.int .i64 f.node,.int .i64 f.id,vo,vd,va,vv]∧ROps S w vo f.ops∧RInts S w vd f.deps∧RInts S w va f.at_∧RInts S w vv f.vals
theorem RFrame.later {S:Nat→Prop} {w w':World} {cs:Array Value} {f:GFrame} (h:RFrame S w cs f) (hb:Below w.heap.size w w'):RFrame S w' cs f:=by
 obtain ⟨vo,vd,va,vv,h0,h1,h2,h3,h4⟩:=h;exact ⟨vo,vd,va,vv,h0,h1.later hb,h2.later hb,h3.later hb,h4.later hb⟩
theorem q60 {S:Nat→Prop} (v:Value) (l:List Int) (n:Int) (w:World) (hv:RInts S w v l) :
 Calls Tryz.prog 95 #[v,.int .i64 n] w fun e w'=>(∃ i:Int,e= .returned (.int .i64 i)∧(decide (0≤i))=qco l n)∧w=w':=by
 obtain ⟨a,cap,rfl,hm⟩:=hv.shape;have HV:=Xw hv;clear hv;go_enter Tryz.func95,Tryz.ntmps95;go_wp2_with fail;go_loop [4,5,8] (fun v4 v5 i=>∃ k:Nat,k≤l.length∧i= .int .i64 k∧qco (l.take k) n=false) (fun _ _ i=>l.length-(intOf i).toNat)
 case atStart=>exact ⟨0,Ag _,rfl,rfl⟩
 case round =>
  obtain ⟨k,hk,rfl,ht⟩:=hrel;by_cases hlt:k<l.length
  ·obtain ⟨x,hx⟩:=qdp hlt;obtain ⟨b,off,rfl,hs,hbs,hc⟩:=HV.out.at hx;have HX:=Xw (ql1 hx);have HT:=Xw ht;have HX2:=Xw hx;clear ht hx;by_cases hxn:n=x
   ·have hb:(n==x)=true:=by simp [hxn]
    have HN:=Xw hxn;clear hxn;go_wp2_with fail;go_ret;exact ⟨⟨k,rfl,by unfold qco;rw [Dr.2 ⟨x,X7 HX2.out,by simpa using HN.out.symm⟩];simp⟩,rfl⟩
   ·have hb:(n==x)=false:=by simp [hxn]
    have HN:=Xw hxn;clear hxn;go_wp2_with fail;go_round
    case rel=>exact ⟨k+1,by omega,by go_num,by rw [HX.out];unfold qco;rw [Dv];simp only [qco] at HT;rw [HT.out];simpa using fun h=>HN.out h.symm⟩
    case measure=>simp [intOf];omega
  ·have hkl:k=l.length:=by omega
   have HT:qco l n=false:=by rw [hkl] at ht;simpa using ht
   have HT2:=Xw HT;clear ht HT hkl;go_wp2_with fail;go_ret;exact ⟨⟨-1,rfl,by rw [HT2.out];decide⟩,rfl⟩
theorem qzi {S:Nat→Prop} (v:Value) (l:List Int) (n:Int) (w:World) (hv:RInts S w v l) :
 Calls Tryz.prog 66 #[v,.int .i64 n] w fun e w'=>e= .returned (.bool (qco l n))∧w=w':=by
 go_enter Tryz.func66,Tryz.ntmps66;go_wp2_with fail;refine (q60 _ l n _ hv).mono ?_;rintro e w' ⟨⟨i,rfl,hi⟩,rfl⟩;have HI:=Xw hi;clear hi;go_wp2_with fail;go_ret;exact ⟨qal HI.out,rfl⟩
theorem GOp.unf {M:Mm} {cs:List Value} {d:GOp} (h:rep M cs d):cs.length=3∧rep M (sl cs 0 1) d.kind∧rep M (sl cs 1 1) d.key∧rep M (sl cs 2 1) d.n:=by
 have h:cs=qkp d:=h;subst h;exact ⟨rfl,rfl,rfl,rfl⟩
theorem GOp.fol {M:Mm} {cs:List Value} {d:GOp} (h:cs.length=3∧rep M (sl cs 0 1) d.kind∧rep M (sl cs 1 1) d.key∧rep M (sl cs 2 1) d.n):rep M cs d:=by
 obtain ⟨h0,h1,h2,h3⟩:=h;have e:cs=sl cs 0 1++sl cs (0+1) (1+1):=by rw [q3h];rw [show 1+(1+1)=cs.length from h0.symm];exact (qv5 cs).symm
 have e2:sl cs (0+1) (1+1)=sl cs 1 1++sl cs (1+1) 1:=(q3h cs 1 1 1).symm;have h1:sl cs 0 1=[.int .i64 d.kind]:=h1;have h2:sl cs 1 1=[.int .i64 d.key]:=h2;have h3:sl cs 2 1=[.int .i64 d.n]:=h3;show cs=qkp d;rw [e,e2,h1,h2,h3];rfl
section
variable {M:Mm} {cs ws:List Value} {o q:Nat} {d:GOp}
def GOp.Y:Lay GOp M:=⟨fun d=>[(0,1,fun c=>rep M c d.kind),(1,1,fun c=>rep M c d.key),(2,1,fun c=>rep M c d.n)],GOp.unf,GOp.fol⟩
theorem GOp.p0 (h:rep M (sl cs o 3) d):rep M (sl cs (o+0) 1) d.kind:=GOp.Y.p 0 h rfl
theorem GOp.u0 {x:Int} (h:rep M (sl cs o 3) d) (hx:Pn M cs ws q (o+0) 1 x):Pn M cs ws q o 3 { d with kind:=x }:=GOp.Y.u 0 h hx rfl
theorem GOp.w0 {x:Int} (h:rep M cs d) (hx:rep M ws x):rep M (pt cs 0 ws) { d with kind:=x }:=Wh h (GOp.u0 (rr h) (Lf (GOp.p0 (rr h)) hx))
theorem GOp.p1 (h:rep M (sl cs o 3) d):rep M (sl cs (o+1) 1) d.key:=GOp.Y.p 1 h rfl
theorem GOp.u1 {x:Int} (h:rep M (sl cs o 3) d) (hx:Pn M cs ws q (o+1) 1 x):Pn M cs ws q o 3 { d with key:=x }:=GOp.Y.u 1 h hx rfl
theorem GOp.w1 {x:Int} (h:rep M cs d) (hx:rep M ws x):rep M (pt cs 1 ws) { d with key:=x }:=Wh h (GOp.u1 (rr h) (Lf (GOp.p1 (rr h)) hx))
theorem GOp.p2 (h:rep M (sl cs o 3) d):rep M (sl cs (o+2) 1) d.n:=GOp.Y.p 2 h rfl
theorem GOp.u2 {x:Int} (h:rep M (sl cs o 3) d) (hx:Pn M cs ws q (o+2) 1 x):Pn M cs ws q o 3 { d with n:=x }:=GOp.Y.u 2 h hx rfl
theorem GOp.w2 {x:Int} (h:rep M cs d) (hx:rep M ws x):rep M (pt cs 2 ws) { d with n:=x }:=Wh h (GOp.u2 (rr h) (Lf (GOp.p2 (rr h)) hx))
end
instance:Pos GOp:=⟨by decide⟩
def zGOp:List Value:=Zr.zc (Int)++Zr.zc (Int)++Zr.zc (Int)
theorem q9h:zGOp.length=3:=by
 simp only [zGOp,X5,Xx (Zr.zr (α := Int) (M:=fun _=>none))];rfl
instance:Zr GOp where
 zd:={ kind:=Zr.zd,key:=Zr.zd,n:=Zr.zd }
 zc:=zGOp
 zr:=GOp.fol ⟨q9h,zp Ga,zp Ga,zp Ga⟩
structure GAct where
 kind:Int
 n:Int
 m:Int
 ops:List (GOp)
instance instRepGAct:Rep GAct where
 k:=4
 bytes:=48
 rep M cs d:=cs.length=4∧rep M (sl cs 0 1) d.kind∧rep M (sl cs 1 1) d.n∧rep M (sl cs 2 1) d.m∧rep M (sl cs 3 1) d.ops
 len h:=h.1
 mono hm h:=by obtain ⟨h,e0,e1,e2,e3⟩:=h;exact ⟨h,Rep.mono hm e0,Rep.mono hm e1,Rep.mono hm e2,Rep.mono hm e3⟩
 one h:=fun u hu=>(o2 3 (Rep.one h.2.1) (o2 2 (Rep.one h.2.2.1) (o2 1 (Rep.one h.2.2.2.1) (Rep.one h.2.2.2.2)))) u (qhp h.1 hu)
theorem GAct.unf {M:Mm} {cs:List Value} {d:GAct} (h:rep M cs d):cs.length=4∧rep M (sl cs 0 1) d.kind∧rep M (sl cs 1 1) d.n∧rep M (sl cs 2 1) d.m∧rep M (sl cs 3 1) d.ops:=h
theorem GAct.fol {M:Mm} {cs:List Value} {d:GAct} (h:cs.length=4∧rep M (sl cs 0 1) d.kind∧rep M (sl cs 1 1) d.n∧rep M (sl cs 2 1) d.m∧rep M (sl cs 3 1) d.ops):rep M cs d:=h
section
variable {M:Mm} {cs ws:List Value} {o q:Nat} {d:GAct}
def GAct.Y:Lay GAct M:=⟨fun d=>[(0,1,fun c=>rep M c d.kind),(1,1,fun c=>rep M c d.n),(2,1,fun c=>rep M c d.m),(3,1,fun c=>rep M c d.ops)],fun h=>h,fun h=>h⟩
theorem GAct.p0 (h:rep M (sl cs o 4) d):rep M (sl cs (o+0) 1) d.kind:=GAct.Y.p 0 h rfl
theorem GAct.u0 {x:Int} (h:rep M (sl cs o 4) d) (hx:Pn M cs ws q (o+0) 1 x):Pn M cs ws q o 4 { d with kind:=x }:=GAct.Y.u 0 h hx rfl
theorem GAct.w0 {x:Int} (h:rep M cs d) (hx:rep M ws x):rep M (pt cs 0 ws) { d with kind:=x }:=Wh h (GAct.u0 (rr h) (Lf (GAct.p0 (rr h)) hx))
theorem GAct.p1 (h:rep M (sl cs o 4) d):rep M (sl cs (o+1) 1) d.n:=GAct.Y.p 1 h rfl
theorem GAct.u1 {x:Int} (h:rep M (sl cs o 4) d) (hx:Pn M cs ws q (o+1) 1 x):Pn M cs ws q o 4 { d with n:=x }:=GAct.Y.u 1 h hx rfl
theorem GAct.w1 {x:Int} (h:rep M cs d) (hx:rep M ws x):rep M (pt cs 1 ws) { d with n:=x }:=Wh h (GAct.u1 (rr h) (Lf (GAct.p1 (rr h)) hx))
theorem GAct.p2 (h:rep M (sl cs o 4) d):rep M (sl cs (o+2) 1) d.m:=GAct.Y.p 2 h rfl
theorem GAct.u2 {x:Int} (h:rep M (sl cs o 4) d) (hx:Pn M cs ws q (o+2) 1 x):Pn M cs ws q o 4 { d with m:=x }:=GAct.Y.u 2 h hx rfl
theorem GAct.w2 {x:Int} (h:rep M cs d) (hx:rep M ws x):rep M (pt cs 2 ws) { d with m:=x }:=Wh h (GAct.u2 (rr h) (Lf (GAct.p2 (rr h)) hx))
theorem GAct.p3 (h:rep M (sl cs o 4) d):rep M (sl cs (o+3) 1) d.ops:=GAct.Y.p 3 h rfl
theorem GAct.u3 {x:List (GOp)} (h:rep M (sl cs o 4) d) (hx:Pn M cs ws q (o+3) 1 x):Pn M cs ws q o 4 { d with ops:=x }:=GAct.Y.u 3 h hx rfl
theorem GAct.w3 {x:List (GOp)} (h:rep M cs d) (hx:rep M ws x):rep M (pt cs 3 ws) { d with ops:=x }:=Wh h (GAct.u3 (rr h) (Lf (GAct.p3 (rr h)) hx))
end
instance:Pos GAct:=⟨by decide⟩
def zGAct:List Value:=Zr.zc (Int)++Zr.zc (Int)++Zr.zc (Int)++Zr.zc (List (GOp))
theorem q61:zGAct.length=4:=by
 simp only [zGAct,X5,Xx (Zr.zr (α := Int) (M:=fun _=>none)),Xx (Zr.zr (α := List (GOp)) (M:=fun _=>none))];rfl
instance:Zr GAct where
 zd:={ kind:=Zr.zd,n:=Zr.zd,m:=Zr.zd,ops:=Zr.zd }
 zc:=zGAct
 zr:=GAct.fol ⟨q61,zp Ga,zp Ga,zp Ga,zp Ga⟩
structure GEntry where
 state:Int
 ops:List (GOp)
 first:List (Int)
 deps:List (Int)
 at_:List (Int)
 values:List (Int)
instance instRepGEntry:Rep GEntry where
 k:=6
 bytes:=128
 rep M cs d:=cs.length=6∧rep M (sl cs 0 1) d.state∧rep M (sl cs 1 1) d.ops∧rep M (sl cs 2 1) d.first∧rep M (sl cs 3 1) d.deps∧rep M (sl cs 4 1) d.at_∧rep M (sl cs 5 1) d.values
 len h:=h.1
 mono hm h:=by obtain ⟨h,e0,e1,e2,e3,e4,e5⟩:=h;exact ⟨h,Rep.mono hm e0,Rep.mono hm e1,Rep.mono hm e2,Rep.mono hm e3,Rep.mono hm e4,Rep.mono hm e5⟩
 one h:=fun u hu=>(o2 5 (Rep.one h.2.1) (o2 4 (Rep.one h.2.2.1) (o2 3 (Rep.one h.2.2.2.1) (o2 2 (Rep.one h.2.2.2.2.1) (o2 1 (Rep.one h.2.2.2.2.2.1) (Rep.one h.2.2.2.2.2.2)))))) u (qhp h.1 hu)
theorem GEntry.unf {M:Mm} {cs:List Value} {d:GEntry} (h:rep M cs d):cs.length=6∧rep M (sl cs 0 1) d.state∧rep M (sl cs 1 1) d.ops∧rep M (sl cs 2 1) d.first∧rep M (sl cs 3 1) d.deps∧rep M (sl cs 4 1) d.at_∧rep M (sl cs 5 1) d.values:=h
theorem GEntry.fol {M:Mm} {cs:List Value} {d:GEntry} (h:cs.length=6∧rep M (sl cs 0 1) d.state∧rep M (sl cs 1 1) d.ops∧rep M (sl cs 2 1) d.first∧rep M (sl cs 3 1) d.deps∧rep M (sl cs 4 1) d.at_∧rep M (sl cs 5 1) d.values):rep M cs d:=h
section
variable {M:Mm} {cs ws:List Value} {o q:Nat} {d:GEntry}
def GEntry.Y:Lay GEntry M:=⟨fun d=>[(0,1,fun c=>rep M c d.state),(1,1,fun c=>rep M c d.ops),(2,1,fun c=>rep M c d.first),(3,1,fun c=>rep M c d.deps),(4,1,fun c=>rep M c d.at_),(5,1,fun c=>rep M c d.values)],fun h=>h,fun h=>h⟩
theorem GEntry.p0 (h:rep M (sl cs o 6) d):rep M (sl cs (o+0) 1) d.state:=GEntry.Y.p 0 h rfl
theorem GEntry.u0 {x:Int} (h:rep M (sl cs o 6) d) (hx:Pn M cs ws q (o+0) 1 x):Pn M cs ws q o 6 { d with state:=x }:=GEntry.Y.u 0 h hx rfl
theorem GEntry.w0 {x:Int} (h:rep M cs d) (hx:rep M ws x):rep M (pt cs 0 ws) { d with state:=x }:=Wh h (GEntry.u0 (rr h) (Lf (GEntry.p0 (rr h)) hx))
theorem GEntry.p1 (h:rep M (sl cs o 6) d):rep M (sl cs (o+1) 1) d.ops:=GEntry.Y.p 1 h rfl
theorem GEntry.u1 {x:List (GOp)} (h:rep M (sl cs o 6) d) (hx:Pn M cs ws q (o+1) 1 x):Pn M cs ws q o 6 { d with ops:=x }:=GEntry.Y.u 1 h hx rfl
theorem GEntry.w1 {x:List (GOp)} (h:rep M cs d) (hx:rep M ws x):rep M (pt cs 1 ws) { d with ops:=x }:=Wh h (GEntry.u1 (rr h) (Lf (GEntry.p1 (rr h)) hx))
theorem GEntry.p2 (h:rep M (sl cs o 6) d):rep M (sl cs (o+2) 1) d.first:=GEntry.Y.p 2 h rfl
theorem GEntry.u2 {x:List (Int)} (h:rep M (sl cs o 6) d) (hx:Pn M cs ws q (o+2) 1 x):Pn M cs ws q o 6 { d with first:=x }:=GEntry.Y.u 2 h hx rfl
theorem GEntry.w2 {x:List (Int)} (h:rep M cs d) (hx:rep M ws x):rep M (pt cs 2 ws) { d with first:=x }:=Wh h (GEntry.u2 (rr h) (Lf (GEntry.p2 (rr h)) hx))
theorem GEntry.p3 (h:rep M (sl cs o 6) d):rep M (sl cs (o+3) 1) d.deps:=GEntry.Y.p 3 h rfl
theorem GEntry.u3 {x:List (Int)} (h:rep M (sl cs o 6) d) (hx:Pn M cs ws q (o+3) 1 x):Pn M cs ws q o 6 { d with deps:=x }:=GEntry.Y.u 3 h hx rfl
theorem GEntry.w3 {x:List (Int)} (h:rep M cs d) (hx:rep M ws x):rep M (pt cs 3 ws) { d with deps:=x }:=Wh h (GEntry.u3 (rr h) (Lf (GEntry.p3 (rr h)) hx))
theorem GEntry.p4 (h:rep M (sl cs o 6) d):rep M (sl cs (o+4) 1) d.at_:=GEntry.Y.p 4 h rfl
theorem GEntry.u4 {x:List (Int)} (h:rep M (sl cs o 6) d) (hx:Pn M cs ws q (o+4) 1 x):Pn M cs ws q o 6 { d with at_:=x }:=GEntry.Y.u 4 h hx rfl
theorem GEntry.w4 {x:List (Int)} (h:rep M cs d) (hx:rep M ws x):rep M (pt cs 4 ws) { d with at_:=x }:=Wh h (GEntry.u4 (rr h) (Lf (GEntry.p4 (rr h)) hx))
theorem GEntry.p5 (h:rep M (sl cs o 6) d):rep M (sl cs (o+5) 1) d.values:=GEntry.Y.p 5 h rfl
theorem GEntry.u5 {x:List (Int)} (h:rep M (sl cs o 6) d) (hx:Pn M cs ws q (o+5) 1 x):Pn M cs ws q o 6 { d with values:=x }:=GEntry.Y.u 5 h hx rfl
theorem GEntry.w5 {x:List (Int)} (h:rep M cs d) (hx:rep M ws x):rep M (pt cs 5 ws) { d with values:=x }:=Wh h (GEntry.u5 (rr h) (Lf (GEntry.p5 (rr h)) hx))
end
instance:Pos GEntry:=⟨by decide⟩
def zGEntry:List Value:=Zr.zc (Int)++Zr.zc (List (GOp))++Zr.zc (List (Int))++Zr.zc (List (Int))++Zr.zc (List (Int))++Zr.zc (List (Int))
theorem q1t:zGEntry.length=6:=by
 simp only [zGEntry,X5,Xx (Zr.zr (α := Int) (M:=fun _=>none)),Xx (Zr.zr (α := List (GOp)) (M:=fun _=>none)),Xx (Zr.zr (α := List (Int)) (M:=fun _=>none))];rfl
instance:Zr GEntry where
 zd:={ state:=Zr.zd,ops:=Zr.zd,first:=Zr.zd,deps:=Zr.zd,at_:=Zr.zd,values:=Zr.zd }
 zc:=zGEntry
 zr:=GEntry.fol ⟨q1t,zp Ga,zp Ga,zp Ga,zp Ga,zp Ga,zp Ga⟩
structure GNode where
 entries:Vector (GEntry) 32
 order:List (Int)
 values:Vector (Int) 8
instance instRepGNode:Rep GNode where
 k:=201
 bytes:=4184
 rep M cs d:=cs.length=201∧rep M (sl cs 0 192) d.entries∧rep M (sl cs 192 1) d.order∧rep M (sl cs 193 8) d.values
 len h:=h.1
 mono hm h:=by obtain ⟨h,e0,e1,e2⟩:=h;exact ⟨h,Rep.mono hm e0,Rep.mono hm e1,Rep.mono hm e2⟩
 one h:=fun u hu=>(o2 9 (Rep.one h.2.1) (o2 8 (Rep.one h.2.2.1) (Rep.one h.2.2.2))) u (qhp h.1 hu)
theorem GNode.unf {M:Mm} {cs:List Value} {d:GNode} (h:rep M cs d):cs.length=201∧rep M (sl cs 0 192) d.entries∧rep M (sl cs 192 1) d.order∧rep M (sl cs 193 8) d.values:=h
theorem GNode.fol {M:Mm} {cs:List Value} {d:GNode} (h:cs.length=201∧rep M (sl cs 0 192) d.entries∧rep M (sl cs 192 1) d.order∧rep M (sl cs 193 8) d.values):rep M cs d:=h
section
variable {M:Mm} {cs ws:List Value} {o q:Nat} {d:GNode}
def GNode.Y:Lay GNode M:=⟨fun d=>[(0,192,fun c=>rep M c d.entries),(192,1,fun c=>rep M c d.order),(193,8,fun c=>rep M c d.values)],fun h=>h,fun h=>h⟩
theorem GNode.p0 (h:rep M (sl cs o 201) d):rep M (sl cs (o+0) 192) d.entries:=GNode.Y.p 0 h rfl
theorem GNode.u0 {x:Vector (GEntry) 32} (h:rep M (sl cs o 201) d) (hx:Pn M cs ws q (o+0) 192 x):Pn M cs ws q o 201 { d with entries:=x }:=GNode.Y.u 0 h hx rfl
theorem GNode.w0 {x:Vector (GEntry) 32} (h:rep M cs d) (hx:rep M ws x):rep M (pt cs 0 ws) { d with entries:=x }:=Wh h (GNode.u0 (rr h) (Lf (GNode.p0 (rr h)) hx))
theorem GNode.p1 (h:rep M (sl cs o 201) d):rep M (sl cs (o+192) 1) d.order:=GNode.Y.p 1 h rfl
theorem GNode.u1 {x:List (Int)} (h:rep M (sl cs o 201) d) (hx:Pn M cs ws q (o+192) 1 x):Pn M cs ws q o 201 { d with order:=x }:=GNode.Y.u 1 h hx rfl
theorem GNode.w1 {x:List (Int)} (h:rep M cs d) (hx:rep M ws x):rep M (pt cs 192 ws) { d with order:=x }:=Wh h (GNode.u1 (rr h) (Lf (GNode.p1 (rr h)) hx))
theorem GNode.p2 (h:rep M (sl cs o 201) d):rep M (sl cs (o+193) 8) d.values:=GNode.Y.p 2 h rfl
theorem GNode.u2 {x:Vector (Int) 8} (h:rep M (sl cs o 201) d) (hx:Pn M cs ws q (o+193) 8 x):Pn M cs ws q o 201 { d with values:=x }:=GNode.Y.u 2 h hx rfl
theorem GNode.w2 {x:Vector (Int) 8} (h:rep M cs d) (hx:rep M ws x):rep M (pt cs 193 ws) { d with values:=x }:=Wh h (GNode.u2 (rr h) (Lf (GNode.p2 (rr h)) hx))
end
instance:Pos GNode:=⟨by decide⟩
def zGNode:List Value:=Zr.zc (Vector (GEntry) 32)++Zr.zc (List (Int))++Zr.zc (Vector (Int) 8)
theorem q4u:zGNode.length=201:=by
 simp only [zGNode,X5,Xx (Zr.zr (α := Vector (GEntry) 32) (M:=fun _=>none)),Xx (Zr.zr (α := List (Int)) (M:=fun _=>none)),Xx (Zr.zr (α := Vector (Int) 8) (M:=fun _=>none))];rfl
instance:Zr GNode where
 zd:={ entries:=Zr.zd,order:=Zr.zd,values:=Zr.zd }
 zc:=zGNode
 zr:=GNode.fol ⟨q4u,zp Ga,zp Ga,zp Ga⟩
structure GCase where
 begun:Bool
 fixed:Bool
 ops:List (GOp)
 told:Vector (Bool) 6
 known:Vector (Bool) 6
 deps:List (Int)
 has:Vector (Bool) 4
 values:Vector (Int) 4
instance instRepGCase:Rep GCase where
 k:=24
 bytes:=112
 rep M cs d:=cs.length=24∧rep M (sl cs 0 1) d.begun∧rep M (sl cs 1 1) d.fixed∧rep M (sl cs 2 1) d.ops∧rep M (sl cs 3 6) d.told∧rep M (sl cs 9 6) d.known∧rep M (sl cs 15 1) d.deps∧rep M (sl cs 16 4) d.has∧rep M (sl cs 20 4) d.values
 len h:=h.1
 mono hm h:=by obtain ⟨h,e0,e1,e2,e3,e4,e5,e6,e7⟩:=h;exact ⟨h,Rep.mono hm e0,Rep.mono hm e1,Rep.mono hm e2,Rep.mono hm e3,Rep.mono hm e4,Rep.mono hm e5,Rep.mono hm e6,Rep.mono hm e7⟩
 one h:=fun u hu=>(o2 23 (Rep.one h.2.1) (o2 22 (Rep.one h.2.2.1) (o2 21 (Rep.one h.2.2.2.1) (o2 15 (Rep.one h.2.2.2.2.1) (o2 9 (Rep.one h.2.2.2.2.2.1) (o2 8 (Rep.one h.2.2.2.2.2.2.1) (o2 4 (Rep.one h.2.2.2.2.2.2.2.1) (Rep.one h.2.2.2.2.2.2.2.2)))))))) u (qhp h.1 hu)
theorem GCase.unf {M:Mm} {cs:List Value} {d:GCase} (h:rep M cs d):cs.length=24∧rep M (sl cs 0 1) d.begun∧rep M (sl cs 1 1) d.fixed∧rep M (sl cs 2 1) d.ops∧rep M (sl cs 3 6) d.told∧rep M (sl cs 9 6) d.known∧rep M (sl cs 15 1) d.deps∧rep M (sl cs 16 4) d.has∧rep M (sl cs 20 4) d.values:=h
theorem GCase.fol {M:Mm} {cs:List Value} {d:GCase} (h:cs.length=24∧rep M (sl cs 0 1) d.begun∧rep M (sl cs 1 1) d.fixed∧rep M (sl cs 2 1) d.ops∧rep M (sl cs 3 6) d.told∧rep M (sl cs 9 6) d.known∧rep M (sl cs 15 1) d.deps∧rep M (sl cs 16 4) d.has∧rep M (sl cs 20 4) d.values):rep M cs d:=h
section
variable {M:Mm} {cs ws:List Value} {o q:Nat} {d:GCase}
def GCase.Y:Lay GCase M:=⟨fun d=>[(0,1,fun c=>rep M c d.begun),(1,1,fun c=>rep M c d.fixed),(2,1,fun c=>rep M c d.ops),(3,6,fun c=>rep M c d.told),(9,6,fun c=>rep M c d.known),(15,1,fun c=>rep M c d.deps),(16,4,fun c=>rep M c d.has),(20,4,fun c=>rep M c d.values)],fun h=>h,fun h=>h⟩
theorem GCase.p0 (h:rep M (sl cs o 24) d):rep M (sl cs (o+0) 1) d.begun:=GCase.Y.p 0 h rfl
theorem GCase.u0 {x:Bool} (h:rep M (sl cs o 24) d) (hx:Pn M cs ws q (o+0) 1 x):Pn M cs ws q o 24 { d with begun:=x }:=GCase.Y.u 0 h hx rfl
theorem GCase.w0 {x:Bool} (h:rep M cs d) (hx:rep M ws x):rep M (pt cs 0 ws) { d with begun:=x }:=Wh h (GCase.u0 (rr h) (Lf (GCase.p0 (rr h)) hx))
theorem GCase.p1 (h:rep M (sl cs o 24) d):rep M (sl cs (o+1) 1) d.fixed:=GCase.Y.p 1 h rfl
theorem GCase.u1 {x:Bool} (h:rep M (sl cs o 24) d) (hx:Pn M cs ws q (o+1) 1 x):Pn M cs ws q o 24 { d with fixed:=x }:=GCase.Y.u 1 h hx rfl
theorem GCase.w1 {x:Bool} (h:rep M cs d) (hx:rep M ws x):rep M (pt cs 1 ws) { d with fixed:=x }:=Wh h (GCase.u1 (rr h) (Lf (GCase.p1 (rr h)) hx))
theorem GCase.p2 (h:rep M (sl cs o 24) d):rep M (sl cs (o+2) 1) d.ops:=GCase.Y.p 2 h rfl
theorem GCase.u2 {x:List (GOp)} (h:rep M (sl cs o 24) d) (hx:Pn M cs ws q (o+2) 1 x):Pn M cs ws q o 24 { d with ops:=x }:=GCase.Y.u 2 h hx rfl
theorem GCase.w2 {x:List (GOp)} (h:rep M cs d) (hx:rep M ws x):rep M (pt cs 2 ws) { d with ops:=x }:=Wh h (GCase.u2 (rr h) (Lf (GCase.p2 (rr h)) hx))
theorem GCase.p3 (h:rep M (sl cs o 24) d):rep M (sl cs (o+3) 6) d.told:=GCase.Y.p 3 h rfl
theorem GCase.u3 {x:Vector (Bool) 6} (h:rep M (sl cs o 24) d) (hx:Pn M cs ws q (o+3) 6 x):Pn M cs ws q o 24 { d with told:=x }:=GCase.Y.u 3 h hx rfl
theorem GCase.w3 {x:Vector (Bool) 6} (h:rep M cs d) (hx:rep M ws x):rep M (pt cs 3 ws) { d with told:=x }:=Wh h (GCase.u3 (rr h) (Lf (GCase.p3 (rr h)) hx))
theorem GCase.p4 (h:rep M (sl cs o 24) d):rep M (sl cs (o+9) 6) d.known:=GCase.Y.p 4 h rfl
theorem GCase.u4 {x:Vector (Bool) 6} (h:rep M (sl cs o 24) d) (hx:Pn M cs ws q (o+9) 6 x):Pn M cs ws q o 24 { d with known:=x }:=GCase.Y.u 4 h hx rfl
theorem GCase.w4 {x:Vector (Bool) 6} (h:rep M cs d) (hx:rep M ws x):rep M (pt cs 9 ws) { d with known:=x }:=Wh h (GCase.u4 (rr h) (Lf (GCase.p4 (rr h)) hx))
theorem GCase.p5 (h:rep M (sl cs o 24) d):rep M (sl cs (o+15) 1) d.deps:=GCase.Y.p 5 h rfl
theorem GCase.u5 {x:List (Int)} (h:rep M (sl cs o 24) d) (hx:Pn M cs ws q (o+15) 1 x):Pn M cs ws q o 24 { d with deps:=x }:=GCase.Y.u 5 h hx rfl
theorem GCase.w5 {x:List (Int)} (h:rep M cs d) (hx:rep M ws x):rep M (pt cs 15 ws) { d with deps:=x }:=Wh h (GCase.u5 (rr h) (Lf (GCase.p5 (rr h)) hx))
theorem GCase.p6 (h:rep M (sl cs o 24) d):rep M (sl cs (o+16) 4) d.has:=GCase.Y.p 6 h rfl
theorem GCase.u6 {x:Vector (Bool) 4} (h:rep M (sl cs o 24) d) (hx:Pn M cs ws q (o+16) 4 x):Pn M cs ws q o 24 { d with has:=x }:=GCase.Y.u 6 h hx rfl
theorem GCase.w6 {x:Vector (Bool) 4} (h:rep M cs d) (hx:rep M ws x):rep M (pt cs 16 ws) { d with has:=x }:=Wh h (GCase.u6 (rr h) (Lf (GCase.p6 (rr h)) hx))
theorem GCase.p7 (h:rep M (sl cs o 24) d):rep M (sl cs (o+20) 4) d.values:=GCase.Y.p 7 h rfl
theorem GCase.u7 {x:Vector (Int) 4} (h:rep M (sl cs o 24) d) (hx:Pn M cs ws q (o+20) 4 x):Pn M cs ws q o 24 { d with values:=x }:=GCase.Y.u 7 h hx rfl
theorem GCase.w7 {x:Vector (Int) 4} (h:rep M cs d) (hx:rep M ws x):rep M (pt cs 20 ws) { d with values:=x }:=Wh h (GCase.u7 (rr h) (Lf (GCase.p7 (rr h)) hx))
end
instance:Pos GCase:=⟨by decide⟩
def zGCase:List Value:=Zr.zc (Bool)++Zr.zc (Bool)++Zr.zc (List (GOp))++Zr.zc (Vector (Bool) 6)++Zr.zc (Vector (Bool) 6)++Zr.zc (List (Int))++Zr.zc (Vector (Bool) 4)++Zr.zc (Vector (Int) 4)
theorem q4v:zGCase.length=24:=by
 simp only [zGCase,X5,Xx (Zr.zr (α := Bool) (M:=fun _=>none)),Xx (Zr.zr (α := List (GOp)) (M:=fun _=>none)),Xx (Zr.zr (α := Vector (Bool) 6) (M:=fun _=>none)),Xx (Zr.zr (α := List (Int)) (M:=fun _=>none)),Xx (Zr.zr (α := Vector (Bool) 4) (M:=fun _=>none)),Xx (Zr.zr (α := Vector (Int) 4) (M:=fun _=>none))];rfl
instance:Zr GCase where
 zd:={ begun:=Zr.zd,fixed:=Zr.zd,ops:=Zr.zd,told:=Zr.zd,known:=Zr.zd,deps:=Zr.zd,has:=Zr.zd,values:=Zr.zd }
 zc:=zGCase
 zr:=GCase.fol ⟨q4v,zp Ga,zp Ga,zp Ga,zp Ga,zp Ga,zp Ga,zp Ga,zp Ga⟩
structure GRefCluster where
 nodes:Vector (GNode) 6
 logs:Vector (ByteArray) 6
 down:Vector (Bool) 6
 tear:Vector (Int) 6
 cases:Hole
 net:List (ByteArray)
 acts:Int
instance instRepGRefCluster:Rep GRefCluster where
 k:=1227
 bytes:=25312
 rep M cs d:=cs.length=1227∧rep M (sl cs 0 1206) d.nodes∧rep M (sl cs 1206 6) d.logs∧rep M (sl cs 1212 6) d.down∧rep M (sl cs 1218 6) d.tear∧rep M (sl cs 1224 1) d.cases∧rep M (sl cs 1225 1) d.net∧rep M (sl cs 1226 1) d.acts
 len h:=h.1
 mono hm h:=by obtain ⟨h,e0,e1,e2,e3,e4,e5,e6⟩:=h;exact ⟨h,Rep.mono hm e0,Rep.mono hm e1,Rep.mono hm e2,Rep.mono hm e3,Rep.mono hm e4,Rep.mono hm e5,Rep.mono hm e6⟩
 one h:=fun u hu=>(o2 21 (Rep.one h.2.1) (o2 15 (Rep.one h.2.2.1) (o2 9 (Rep.one h.2.2.2.1) (o2 3 (Rep.one h.2.2.2.2.1) (o2 2 (Rep.one h.2.2.2.2.2.1) (o2 1 (Rep.one h.2.2.2.2.2.2.1) (Rep.one h.2.2.2.2.2.2.2))))))) u (qhp h.1 hu)
theorem GRefCluster.unf {M:Mm} {cs:List Value} {d:GRefCluster} (h:rep M cs d):cs.length=1227∧rep M (sl cs 0 1206) d.nodes∧rep M (sl cs 1206 6) d.logs∧rep M (sl cs 1212 6) d.down∧rep M (sl cs 1218 6) d.tear∧rep M (sl cs 1224 1) d.cases∧rep M (sl cs 1225 1) d.net∧rep M (sl cs 1226 1) d.acts:=h
theorem GRefCluster.fol {M:Mm} {cs:List Value} {d:GRefCluster} (h:cs.length=1227∧rep M (sl cs 0 1206) d.nodes∧rep M (sl cs 1206 6) d.logs∧rep M (sl cs 1212 6) d.down∧rep M (sl cs 1218 6) d.tear∧rep M (sl cs 1224 1) d.cases∧rep M (sl cs 1225 1) d.net∧rep M (sl cs 1226 1) d.acts):rep M cs d:=h
section
variable {M:Mm} {cs ws:List Value} {o q:Nat} {d:GRefCluster}
def GRefCluster.Y:Lay GRefCluster M:=⟨fun d=>[(0,1206,fun c=>rep M c d.nodes),(1206,6,fun c=>rep M c d.logs),(1212,6,fun c=>rep M c d.down),(1218,6,fun c=>rep M c d.tear),(1224,1,fun c=>rep M c d.cases),(1225,1,fun c=>rep M c d.net),(1226,1,fun c=>rep M c d.acts)],fun h=>h,fun h=>h⟩
theorem GRefCluster.p0 (h:rep M (sl cs o 1227) d):rep M (sl cs (o+0) 1206) d.nodes:=GRefCluster.Y.p 0 h rfl
theorem GRefCluster.u0 {x:Vector (GNode) 6} (h:rep M (sl cs o 1227) d) (hx:Pn M cs ws q (o+0) 1206 x):Pn M cs ws q o 1227 { d with nodes:=x }:=GRefCluster.Y.u 0 h hx rfl
theorem GRefCluster.w0 {x:Vector (GNode) 6} (h:rep M cs d) (hx:rep M ws x):rep M (pt cs 0 ws) { d with nodes:=x }:=Wh h (GRefCluster.u0 (rr h) (Lf (GRefCluster.p0 (rr h)) hx))
theorem GRefCluster.p1 (h:rep M (sl cs o 1227) d):rep M (sl cs (o+1206) 6) d.logs:=GRefCluster.Y.p 1 h rfl
theorem GRefCluster.u1 {x:Vector (ByteArray) 6} (h:rep M (sl cs o 1227) d) (hx:Pn M cs ws q (o+1206) 6 x):Pn M cs ws q o 1227 { d with logs:=x }:=GRefCluster.Y.u 1 h hx rfl
theorem GRefCluster.w1 {x:Vector (ByteArray) 6} (h:rep M cs d) (hx:rep M ws x):rep M (pt cs 1206 ws) { d with logs:=x }:=Wh h (GRefCluster.u1 (rr h) (Lf (GRefCluster.p1 (rr h)) hx))
theorem GRefCluster.p2 (h:rep M (sl cs o 1227) d):rep M (sl cs (o+1212) 6) d.down:=GRefCluster.Y.p 2 h rfl
theorem GRefCluster.u2 {x:Vector (Bool) 6} (h:rep M (sl cs o 1227) d) (hx:Pn M cs ws q (o+1212) 6 x):Pn M cs ws q o 1227 { d with down:=x }:=GRefCluster.Y.u 2 h hx rfl
theorem GRefCluster.w2 {x:Vector (Bool) 6} (h:rep M cs d) (hx:rep M ws x):rep M (pt cs 1212 ws) { d with down:=x }:=Wh h (GRefCluster.u2 (rr h) (Lf (GRefCluster.p2 (rr h)) hx))
theorem GRefCluster.p3 (h:rep M (sl cs o 1227) d):rep M (sl cs (o+1218) 6) d.tear:=GRefCluster.Y.p 3 h rfl
theorem GRefCluster.u3 {x:Vector (Int) 6} (h:rep M (sl cs o 1227) d) (hx:Pn M cs ws q (o+1218) 6 x):Pn M cs ws q o 1227 { d with tear:=x }:=GRefCluster.Y.u 3 h hx rfl
theorem GRefCluster.w3 {x:Vector (Int) 6} (h:rep M cs d) (hx:rep M ws x):rep M (pt cs 1218 ws) { d with tear:=x }:=Wh h (GRefCluster.u3 (rr h) (Lf (GRefCluster.p3 (rr h)) hx))
theorem GRefCluster.p4 (h:rep M (sl cs o 1227) d):rep M (sl cs (o+1224) 1) d.cases:=GRefCluster.Y.p 4 h rfl
theorem GRefCluster.u4 {x:Hole} (h:rep M (sl cs o 1227) d) (hx:Pn M cs ws q (o+1224) 1 x):Pn M cs ws q o 1227 { d with cases:=x }:=GRefCluster.Y.u 4 h hx rfl
theorem GRefCluster.w4 {x:Hole} (h:rep M cs d) (hx:rep M ws x):rep M (pt cs 1224 ws) { d with cases:=x }:=Wh h (GRefCluster.u4 (rr h) (Lf (GRefCluster.p4 (rr h)) hx))
theorem GRefCluster.p5 (h:rep M (sl cs o 1227) d):rep M (sl cs (o+1225) 1) d.net:=GRefCluster.Y.p 5 h rfl
theorem GRefCluster.u5 {x:List (ByteArray)} (h:rep M (sl cs o 1227) d) (hx:Pn M cs ws q (o+1225) 1 x):Pn M cs ws q o 1227 { d with net:=x }:=GRefCluster.Y.u 5 h hx rfl
theorem GRefCluster.w5 {x:List (ByteArray)} (h:rep M cs d) (hx:rep M ws x):rep M (pt cs 1225 ws) { d with net:=x }:=Wh h (GRefCluster.u5 (rr h) (Lf (GRefCluster.p5 (rr h)) hx))
theorem GRefCluster.p6 (h:rep M (sl cs o 1227) d):rep M (sl cs (o+1226) 1) d.acts:=GRefCluster.Y.p 6 h rfl
theorem GRefCluster.u6 {x:Int} (h:rep M (sl cs o 1227) d) (hx:Pn M cs ws q (o+1226) 1 x):Pn M cs ws q o 1227 { d with acts:=x }:=GRefCluster.Y.u 6 h hx rfl
theorem GRefCluster.w6 {x:Int} (h:rep M cs d) (hx:rep M ws x):rep M (pt cs 1226 ws) { d with acts:=x }:=Wh h (GRefCluster.u6 (rr h) (Lf (GRefCluster.p6 (rr h)) hx))
end
instance:Pos GRefCluster:=⟨by decide⟩
def zGRefCluster:List Value:=Zr.zc (Vector (GNode) 6)++Zr.zc (Vector (ByteArray) 6)++Zr.zc (Vector (Bool) 6)++Zr.zc (Vector (Int) 6)++Zr.zc (Hole)++Zr.zc (List (ByteArray))++Zr.zc (Int)
theorem qsy:zGRefCluster.length=1227:=by
 simp only [zGRefCluster,X5,Xx (Zr.zr (α := Vector (GNode) 6) (M:=fun _=>none)),Xx (Zr.zr (α := Vector (ByteArray) 6) (M:=fun _=>none)),Xx (Zr.zr (α := Vector (Bool) 6) (M:=fun _=>none)),Xx (Zr.zr (α := Vector (Int) 6) (M:=fun _=>none)),Xx (Zr.zr (α := Hole) (M:=fun _=>none)),Xx (Zr.zr (α := List (ByteArray)) (M:=fun _=>none)),Xx (Zr.zr (α := Int) (M:=fun _=>none))];rfl
instance:Zr GRefCluster where
 zd:={ nodes:=Zr.zd,logs:=Zr.zd,down:=Zr.zd,tear:=Zr.zd,cases:=Zr.zd,net:=Zr.zd,acts:=Zr.zd }
 zc:=zGRefCluster
 zr:=GRefCluster.fol ⟨qsy,zp Ga,zp Ga,zp Ga,zp Ga,zp Ga,zp Ga,zp Ga⟩
structure GReply where
 code:Int
 n:Int
 values:List (Int)
instance instRepGReply:Rep GReply where
 k:=3
 bytes:=40
 rep M cs d:=cs.length=3∧rep M (sl cs 0 1) d.code∧rep M (sl cs 1 1) d.n∧rep M (sl cs 2 1) d.values
 len h:=h.1
 mono hm h:=by obtain ⟨h,e0,e1,e2⟩:=h;exact ⟨h,Rep.mono hm e0,Rep.mono hm e1,Rep.mono hm e2⟩
 one h:=fun u hu=>(o2 2 (Rep.one h.2.1) (o2 1 (Rep.one h.2.2.1) (Rep.one h.2.2.2))) u (qhp h.1 hu)
theorem GReply.unf {M:Mm} {cs:List Value} {d:GReply} (h:rep M cs d):cs.length=3∧rep M (sl cs 0 1) d.code∧rep M (sl cs 1 1) d.n∧rep M (sl cs 2 1) d.values:=h
theorem GReply.fol {M:Mm} {cs:List Value} {d:GReply} (h:cs.length=3∧rep M (sl cs 0 1) d.code∧rep M (sl cs 1 1) d.n∧rep M (sl cs 2 1) d.values):rep M cs d:=h
section
variable {M:Mm} {cs ws:List Value} {o q:Nat} {d:GReply}
def GReply.Y:Lay GReply M:=⟨fun d=>[(0,1,fun c=>rep M c d.code),(1,1,fun c=>rep M c d.n),(2,1,fun c=>rep M c d.values)],fun h=>h,fun h=>h⟩
theorem GReply.p0 (h:rep M (sl cs o 3) d):rep M (sl cs (o+0) 1) d.code:=GReply.Y.p 0 h rfl
theorem GReply.u0 {x:Int} (h:rep M (sl cs o 3) d) (hx:Pn M cs ws q (o+0) 1 x):Pn M cs ws q o 3 { d with code:=x }:=GReply.Y.u 0 h hx rfl
theorem GReply.w0 {x:Int} (h:rep M cs d) (hx:rep M ws x):rep M (pt cs 0 ws) { d with code:=x }:=Wh h (GReply.u0 (rr h) (Lf (GReply.p0 (rr h)) hx))
theorem GReply.p1 (h:rep M (sl cs o 3) d):rep M (sl cs (o+1) 1) d.n:=GReply.Y.p 1 h rfl
theorem GReply.u1 {x:Int} (h:rep M (sl cs o 3) d) (hx:Pn M cs ws q (o+1) 1 x):Pn M cs ws q o 3 { d with n:=x }:=GReply.Y.u 1 h hx rfl
theorem GReply.w1 {x:Int} (h:rep M cs d) (hx:rep M ws x):rep M (pt cs 1 ws) { d with n:=x }:=Wh h (GReply.u1 (rr h) (Lf (GReply.p1 (rr h)) hx))
theorem GReply.p2 (h:rep M (sl cs o 3) d):rep M (sl cs (o+2) 1) d.values:=GReply.Y.p 2 h rfl
theorem GReply.u2 {x:List (Int)} (h:rep M (sl cs o 3) d) (hx:Pn M cs ws q (o+2) 1 x):Pn M cs ws q o 3 { d with values:=x }:=GReply.Y.u 2 h hx rfl
theorem GReply.w2 {x:List (Int)} (h:rep M cs d) (hx:rep M ws x):rep M (pt cs 2 ws) { d with values:=x }:=Wh h (GReply.u2 (rr h) (Lf (GReply.p2 (rr h)) hx))
end
instance:Pos GReply:=⟨by decide⟩
def zGReply:List Value:=Zr.zc (Int)++Zr.zc (Int)++Zr.zc (List (Int))
theorem q1u:zGReply.length=3:=by
 simp only [zGReply,X5,Xx (Zr.zr (α := Int) (M:=fun _=>none)),Xx (Zr.zr (α := List (Int)) (M:=fun _=>none))];rfl
instance:Zr GReply where
 zd:={ code:=Zr.zd,n:=Zr.zd,values:=Zr.zd }
 zc:=zGReply
 zr:=GReply.fol ⟨q1u,zp Ga,zp Ga,zp Ga⟩
structure GTxn where
 id:Int
 ops:List (GOp)
instance instRepGTxn:Rep GTxn where
 k:=2
 bytes:=32
 rep M cs d:=cs.length=2∧rep M (sl cs 0 1) d.id∧rep M (sl cs 1 1) d.ops
 len h:=h.1
 mono hm h:=by obtain ⟨h,e0,e1⟩:=h;exact ⟨h,Rep.mono hm e0,Rep.mono hm e1⟩
 one h:=fun u hu=>(o2 1 (Rep.one h.2.1) (Rep.one h.2.2)) u (qhp h.1 hu)
theorem GTxn.unf {M:Mm} {cs:List Value} {d:GTxn} (h:rep M cs d):cs.length=2∧rep M (sl cs 0 1) d.id∧rep M (sl cs 1 1) d.ops:=h
theorem GTxn.fol {M:Mm} {cs:List Value} {d:GTxn} (h:cs.length=2∧rep M (sl cs 0 1) d.id∧rep M (sl cs 1 1) d.ops):rep M cs d:=h
section
variable {M:Mm} {cs ws:List Value} {o q:Nat} {d:GTxn}
def GTxn.Y:Lay GTxn M:=⟨fun d=>[(0,1,fun c=>rep M c d.id),(1,1,fun c=>rep M c d.ops)],fun h=>h,fun h=>h⟩
theorem GTxn.p0 (h:rep M (sl cs o 2) d):rep M (sl cs (o+0) 1) d.id:=GTxn.Y.p 0 h rfl
theorem GTxn.u0 {x:Int} (h:rep M (sl cs o 2) d) (hx:Pn M cs ws q (o+0) 1 x):Pn M cs ws q o 2 { d with id:=x }:=GTxn.Y.u 0 h hx rfl
theorem GTxn.w0 {x:Int} (h:rep M cs d) (hx:rep M ws x):rep M (pt cs 0 ws) { d with id:=x }:=Wh h (GTxn.u0 (rr h) (Lf (GTxn.p0 (rr h)) hx))
theorem GTxn.p1 (h:rep M (sl cs o 2) d):rep M (sl cs (o+1) 1) d.ops:=GTxn.Y.p 1 h rfl
theorem GTxn.u1 {x:List (GOp)} (h:rep M (sl cs o 2) d) (hx:Pn M cs ws q (o+1) 1 x):Pn M cs ws q o 2 { d with ops:=x }:=GTxn.Y.u 1 h hx rfl
theorem GTxn.w1 {x:List (GOp)} (h:rep M cs d) (hx:rep M ws x):rep M (pt cs 1 ws) { d with ops:=x }:=Wh h (GTxn.u1 (rr h) (Lf (GTxn.p1 (rr h)) hx))
end
instance:Pos GTxn:=⟨by decide⟩
def zGTxn:List Value:=Zr.zc (Int)++Zr.zc (List (GOp))
theorem q62:zGTxn.length=2:=by
 simp only [zGTxn,X5,Xx (Zr.zr (α := Int) (M:=fun _=>none)),Xx (Zr.zr (α := List (GOp)) (M:=fun _=>none))];rfl
instance:Zr GTxn where
 zd:={ id:=Zr.zd,ops:=Zr.zd }
 zc:=zGTxn
 zr:=GTxn.fol ⟨q62,zp Ga,zp Ga⟩
instance instRepGFrame:Rep GFrame where
 k:=7
 bytes:=120
 rep M cs d:=cs.length=7∧rep M (sl cs 0 1) d.kind∧rep M (sl cs 1 1) d.node∧rep M (sl cs 2 1) d.id∧rep M (sl cs 3 1) d.ops∧rep M (sl cs 4 1) d.deps∧rep M (sl cs 5 1) d.at_∧rep M (sl cs 6 1) d.vals
 len h:=h.1
 mono hm h:=by obtain ⟨h,e0,e1,e2,e3,e4,e5,e6⟩:=h;exact ⟨h,Rep.mono hm e0,Rep.mono hm e1,Rep.mono hm e2,Rep.mono hm e3,Rep.mono hm e4,Rep.mono hm e5,Rep.mono hm e6⟩
 one h:=fun u hu=>(o2 6 (Rep.one h.2.1) (o2 5 (Rep.one h.2.2.1) (o2 4 (Rep.one h.2.2.2.1) (o2 3 (Rep.one h.2.2.2.2.1) (o2 2 (Rep.one h.2.2.2.2.2.1) (o2 1 (Rep.one h.2.2.2.2.2.2.1) (Rep.one h.2.2.2.2.2.2.2))))))) u (qhp h.1 hu)
theorem GFrame.unf {M:Mm} {cs:List Value} {d:GFrame} (h:rep M cs d):cs.length=7∧rep M (sl cs 0 1) d.kind∧rep M (sl cs 1 1) d.node∧rep M (sl cs 2 1) d.id∧rep M (sl cs 3 1) d.ops∧rep M (sl cs 4 1) d.deps∧rep M (sl cs 5 1) d.at_∧rep M (sl cs 6 1) d.vals:=h
theorem GFrame.fol {M:Mm} {cs:List Value} {d:GFrame} (h:cs.length=7∧rep M (sl cs 0 1) d.kind∧rep M (sl cs 1 1) d.node∧rep M (sl cs 2 1) d.id∧rep M (sl cs 3 1) d.ops∧rep M (sl cs 4 1) d.deps∧rep M (sl cs 5 1) d.at_∧rep M (sl cs 6 1) d.vals):rep M cs d:=h
section
variable {M:Mm} {cs ws:List Value} {o q:Nat} {d:GFrame}
def GFrame.Y:Lay GFrame M:=⟨fun d=>[(0,1,fun c=>rep M c d.kind),(1,1,fun c=>rep M c d.node),(2,1,fun c=>rep M c d.id),(3,1,fun c=>rep M c d.ops),(4,1,fun c=>rep M c d.deps),(5,1,fun c=>rep M c d.at_),(6,1,fun c=>rep M c d.vals)],fun h=>h,fun h=>h⟩
theorem GFrame.p0 (h:rep M (sl cs o 7) d):rep M (sl cs (o+0) 1) d.kind:=GFrame.Y.p 0 h rfl
theorem GFrame.u0 {x:Int} (h:rep M (sl cs o 7) d) (hx:Pn M cs ws q (o+0) 1 x):Pn M cs ws q o 7 { d with kind:=x }:=GFrame.Y.u 0 h hx rfl
theorem GFrame.w0 {x:Int} (h:rep M cs d) (hx:rep M ws x):rep M (pt cs 0 ws) { d with kind:=x }:=Wh h (GFrame.u0 (rr h) (Lf (GFrame.p0 (rr h)) hx))
theorem GFrame.p1 (h:rep M (sl cs o 7) d):rep M (sl cs (o+1) 1) d.node:=GFrame.Y.p 1 h rfl
theorem GFrame.u1 {x:Int} (h:rep M (sl cs o 7) d) (hx:Pn M cs ws q (o+1) 1 x):Pn M cs ws q o 7 { d with node:=x }:=GFrame.Y.u 1 h hx rfl
theorem GFrame.w1 {x:Int} (h:rep M cs d) (hx:rep M ws x):rep M (pt cs 1 ws) { d with node:=x }:=Wh h (GFrame.u1 (rr h) (Lf (GFrame.p1 (rr h)) hx))
theorem GFrame.p2 (h:rep M (sl cs o 7) d):rep M (sl cs (o+2) 1) d.id:=GFrame.Y.p 2 h rfl
theorem GFrame.u2 {x:Int} (h:rep M (sl cs o 7) d) (hx:Pn M cs ws q (o+2) 1 x):Pn M cs ws q o 7 { d with id:=x }:=GFrame.Y.u 2 h hx rfl
theorem GFrame.w2 {x:Int} (h:rep M cs d) (hx:rep M ws x):rep M (pt cs 2 ws) { d with id:=x }:=Wh h (GFrame.u2 (rr h) (Lf (GFrame.p2 (rr h)) hx))
theorem GFrame.p3 (h:rep M (sl cs o 7) d):rep M (sl cs (o+3) 1) d.ops:=GFrame.Y.p 3 h rfl
theorem GFrame.u3 {x:List (GOp)} (h:rep M (sl cs o 7) d) (hx:Pn M cs ws q (o+3) 1 x):Pn M cs ws q o 7 { d with ops:=x }:=GFrame.Y.u 3 h hx rfl
theorem GFrame.w3 {x:List (GOp)} (h:rep M cs d) (hx:rep M ws x):rep M (pt cs 3 ws) { d with ops:=x }:=Wh h (GFrame.u3 (rr h) (Lf (GFrame.p3 (rr h)) hx))
theorem GFrame.p4 (h:rep M (sl cs o 7) d):rep M (sl cs (o+4) 1) d.deps:=GFrame.Y.p 4 h rfl
theorem GFrame.u4 {x:List (Int)} (h:rep M (sl cs o 7) d) (hx:Pn M cs ws q (o+4) 1 x):Pn M cs ws q o 7 { d with deps:=x }:=GFrame.Y.u 4 h hx rfl
theorem GFrame.w4 {x:List (Int)} (h:rep M cs d) (hx:rep M ws x):rep M (pt cs 4 ws) { d with deps:=x }:=Wh h (GFrame.u4 (rr h) (Lf (GFrame.p4 (rr h)) hx))
theorem GFrame.p5 (h:rep M (sl cs o 7) d):rep M (sl cs (o+5) 1) d.at_:=GFrame.Y.p 5 h rfl
theorem GFrame.u5 {x:List (Int)} (h:rep M (sl cs o 7) d) (hx:Pn M cs ws q (o+5) 1 x):Pn M cs ws q o 7 { d with at_:=x }:=GFrame.Y.u 5 h hx rfl
theorem GFrame.w5 {x:List (Int)} (h:rep M cs d) (hx:rep M ws x):rep M (pt cs 5 ws) { d with at_:=x }:=Wh h (GFrame.u5 (rr h) (Lf (GFrame.p5 (rr h)) hx))
theorem GFrame.p6 (h:rep M (sl cs o 7) d):rep M (sl cs (o+6) 1) d.vals:=GFrame.Y.p 6 h rfl
theorem GFrame.u6 {x:List (Int)} (h:rep M (sl cs o 7) d) (hx:Pn M cs ws q (o+6) 1 x):Pn M cs ws q o 7 { d with vals:=x }:=GFrame.Y.u 6 h hx rfl
theorem GFrame.w6 {x:List (Int)} (h:rep M cs d) (hx:rep M ws x):rep M (pt cs 6 ws) { d with vals:=x }:=Wh h (GFrame.u6 (rr h) (Lf (GFrame.p6 (rr h)) hx))
end
instance:Pos GFrame:=⟨by decide⟩
def zGFrame:List Value:=Zr.zc (Int)++Zr.zc (Int)++Zr.zc (Int)++Zr.zc (List (GOp))++Zr.zc (List (Int))++Zr.zc (List (Int))++Zr.zc (List (Int))
theorem q1v:zGFrame.length=7:=by
 simp only [zGFrame,X5,Xx (Zr.zr (α := Int) (M:=fun _=>none)),Xx (Zr.zr (α := List (GOp)) (M:=fun _=>none)),Xx (Zr.zr (α := List (Int)) (M:=fun _=>none))];rfl
instance:Zr GFrame where
 zd:={ kind:=Zr.zd,node:=Zr.zd,id:=Zr.zd,ops:=Zr.zd,deps:=Zr.zd,at_:=Zr.zd,vals:=Zr.zd }
 zc:=zGFrame
 zr:=GFrame.fol ⟨q1v,zp Ga,zp Ga,zp Ga,zp Ga,zp Ga,zp Ga,zp Ga⟩
structure GCluster where
 nodes:Vector (GNode) 6
 logs:Vector (ByteArray) 6
 down:Vector (Bool) 6
 tear:Vector (Int) 6
 cases:Vector (GCase) 32
 begun:Int
 net:Hole
 acts:Int
instance instRepGCluster:Rep GCluster where
 k:=1995
 bytes:=28880
 rep M cs d:=cs.length=1995∧rep M (sl cs 0 1206) d.nodes∧rep M (sl cs 1206 6) d.logs∧rep M (sl cs 1212 6) d.down∧rep M (sl cs 1218 6) d.tear∧rep M (sl cs 1224 768) d.cases∧rep M (sl cs 1992 1) d.begun∧rep M (sl cs 1993 1) d.net∧rep M (sl cs 1994 1) d.acts
 len h:=h.1
 mono hm h:=by obtain ⟨h,e0,e1,e2,e3,e4,e5,e6,e7⟩:=h;exact ⟨h,Rep.mono hm e0,Rep.mono hm e1,Rep.mono hm e2,Rep.mono hm e3,Rep.mono hm e4,Rep.mono hm e5,Rep.mono hm e6,Rep.mono hm e7⟩
 one h:=fun u hu=>(o2 789 (Rep.one h.2.1) (o2 783 (Rep.one h.2.2.1) (o2 777 (Rep.one h.2.2.2.1) (o2 771 (Rep.one h.2.2.2.2.1) (o2 3 (Rep.one h.2.2.2.2.2.1) (o2 2 (Rep.one h.2.2.2.2.2.2.1) (o2 1 (Rep.one h.2.2.2.2.2.2.2.1) (Rep.one h.2.2.2.2.2.2.2.2)))))))) u (qhp h.1 hu)
theorem GCluster.unf {M:Mm} {cs:List Value} {d:GCluster} (h:rep M cs d):cs.length=1995∧rep M (sl cs 0 1206) d.nodes∧rep M (sl cs 1206 6) d.logs∧rep M (sl cs 1212 6) d.down∧rep M (sl cs 1218 6) d.tear∧rep M (sl cs 1224 768) d.cases∧rep M (sl cs 1992 1) d.begun∧rep M (sl cs 1993 1) d.net∧rep M (sl cs 1994 1) d.acts:=h
theorem GCluster.fol {M:Mm} {cs:List Value} {d:GCluster} (h:cs.length=1995∧rep M (sl cs 0 1206) d.nodes∧rep M (sl cs 1206 6) d.logs∧rep M (sl cs 1212 6) d.down∧rep M (sl cs 1218 6) d.tear∧rep M (sl cs 1224 768) d.cases∧rep M (sl cs 1992 1) d.begun∧rep M (sl cs 1993 1) d.net∧rep M (sl cs 1994 1) d.acts):rep M cs d:=h
section
variable {M:Mm} {cs ws:List Value} {o q:Nat} {d:GCluster}
def GCluster.Y:Lay GCluster M:=⟨fun d=>[(0,1206,fun c=>rep M c d.nodes),(1206,6,fun c=>rep M c d.logs),(1212,6,fun c=>rep M c d.down),(1218,6,fun c=>rep M c d.tear),(1224,768,fun c=>rep M c d.cases),(1992,1,fun c=>rep M c d.begun),(1993,1,fun c=>rep M c d.net),(1994,1,fun c=>rep M c d.acts)],fun h=>h,fun h=>h⟩
theorem GCluster.p0 (h:rep M (sl cs o 1995) d):rep M (sl cs (o+0) 1206) d.nodes:=GCluster.Y.p 0 h rfl
theorem GCluster.u0 {x:Vector (GNode) 6} (h:rep M (sl cs o 1995) d) (hx:Pn M cs ws q (o+0) 1206 x):Pn M cs ws q o 1995 { d with nodes:=x }:=GCluster.Y.u 0 h hx rfl
theorem GCluster.w0 {x:Vector (GNode) 6} (h:rep M cs d) (hx:rep M ws x):rep M (pt cs 0 ws) { d with nodes:=x }:=Wh h (GCluster.u0 (rr h) (Lf (GCluster.p0 (rr h)) hx))
theorem GCluster.p1 (h:rep M (sl cs o 1995) d):rep M (sl cs (o+1206) 6) d.logs:=GCluster.Y.p 1 h rfl
theorem GCluster.u1 {x:Vector (ByteArray) 6} (h:rep M (sl cs o 1995) d) (hx:Pn M cs ws q (o+1206) 6 x):Pn M cs ws q o 1995 { d with logs:=x }:=GCluster.Y.u 1 h hx rfl
theorem GCluster.w1 {x:Vector (ByteArray) 6} (h:rep M cs d) (hx:rep M ws x):rep M (pt cs 1206 ws) { d with logs:=x }:=Wh h (GCluster.u1 (rr h) (Lf (GCluster.p1 (rr h)) hx))
theorem GCluster.p2 (h:rep M (sl cs o 1995) d):rep M (sl cs (o+1212) 6) d.down:=GCluster.Y.p 2 h rfl
theorem GCluster.u2 {x:Vector (Bool) 6} (h:rep M (sl cs o 1995) d) (hx:Pn M cs ws q (o+1212) 6 x):Pn M cs ws q o 1995 { d with down:=x }:=GCluster.Y.u 2 h hx rfl
theorem GCluster.w2 {x:Vector (Bool) 6} (h:rep M cs d) (hx:rep M ws x):rep M (pt cs 1212 ws) { d with down:=x }:=Wh h (GCluster.u2 (rr h) (Lf (GCluster.p2 (rr h)) hx))
theorem GCluster.p3 (h:rep M (sl cs o 1995) d):rep M (sl cs (o+1218) 6) d.tear:=GCluster.Y.p 3 h rfl
theorem GCluster.u3 {x:Vector (Int) 6} (h:rep M (sl cs o 1995) d) (hx:Pn M cs ws q (o+1218) 6 x):Pn M cs ws q o 1995 { d with tear:=x }:=GCluster.Y.u 3 h hx rfl
theorem GCluster.w3 {x:Vector (Int) 6} (h:rep M cs d) (hx:rep M ws x):rep M (pt cs 1218 ws) { d with tear:=x }:=Wh h (GCluster.u3 (rr h) (Lf (GCluster.p3 (rr h)) hx))
theorem GCluster.p4 (h:rep M (sl cs o 1995) d):rep M (sl cs (o+1224) 768) d.cases:=GCluster.Y.p 4 h rfl
theorem GCluster.u4 {x:Vector (GCase) 32} (h:rep M (sl cs o 1995) d) (hx:Pn M cs ws q (o+1224) 768 x):Pn M cs ws q o 1995 { d with cases:=x }:=GCluster.Y.u 4 h hx rfl
theorem GCluster.w4 {x:Vector (GCase) 32} (h:rep M cs d) (hx:rep M ws x):rep M (pt cs 1224 ws) { d with cases:=x }:=Wh h (GCluster.u4 (rr h) (Lf (GCluster.p4 (rr h)) hx))
theorem GCluster.p5 (h:rep M (sl cs o 1995) d):rep M (sl cs (o+1992) 1) d.begun:=GCluster.Y.p 5 h rfl
theorem GCluster.u5 {x:Int} (h:rep M (sl cs o 1995) d) (hx:Pn M cs ws q (o+1992) 1 x):Pn M cs ws q o 1995 { d with begun:=x }:=GCluster.Y.u 5 h hx rfl
theorem GCluster.w5 {x:Int} (h:rep M cs d) (hx:rep M ws x):rep M (pt cs 1992 ws) { d with begun:=x }:=Wh h (GCluster.u5 (rr h) (Lf (GCluster.p5 (rr h)) hx))
theorem GCluster.p6 (h:rep M (sl cs o 1995) d):rep M (sl cs (o+1993) 1) d.net:=GCluster.Y.p 6 h rfl
theorem GCluster.u6 {x:Hole} (h:rep M (sl cs o 1995) d) (hx:Pn M cs ws q (o+1993) 1 x):Pn M cs ws q o 1995 { d with net:=x }:=GCluster.Y.u 6 h hx rfl
theorem GCluster.w6 {x:Hole} (h:rep M cs d) (hx:rep M ws x):rep M (pt cs 1993 ws) { d with net:=x }:=Wh h (GCluster.u6 (rr h) (Lf (GCluster.p6 (rr h)) hx))
theorem GCluster.p7 (h:rep M (sl cs o 1995) d):rep M (sl cs (o+1994) 1) d.acts:=GCluster.Y.p 7 h rfl
theorem GCluster.u7 {x:Int} (h:rep M (sl cs o 1995) d) (hx:Pn M cs ws q (o+1994) 1 x):Pn M cs ws q o 1995 { d with acts:=x }:=GCluster.Y.u 7 h hx rfl
theorem GCluster.w7 {x:Int} (h:rep M cs d) (hx:rep M ws x):rep M (pt cs 1994 ws) { d with acts:=x }:=Wh h (GCluster.u7 (rr h) (Lf (GCluster.p7 (rr h)) hx))
end
instance:Pos GCluster:=⟨by decide⟩
def zGCluster:List Value:=Zr.zc (Vector (GNode) 6)++Zr.zc (Vector (ByteArray) 6)++Zr.zc (Vector (Bool) 6)++Zr.zc (Vector (Int) 6)++Zr.zc (Vector (GCase) 32)++Zr.zc (Int)++Zr.zc (Hole)++Zr.zc (Int)
theorem qx0:zGCluster.length=1995:=by
 simp only [zGCluster,X5,Xx (Zr.zr (α := Vector (GNode) 6) (M:=fun _=>none)),Xx (Zr.zr (α := Vector (ByteArray) 6) (M:=fun _=>none)),Xx (Zr.zr (α := Vector (Bool) 6) (M:=fun _=>none)),Xx (Zr.zr (α := Vector (Int) 6) (M:=fun _=>none)),Xx (Zr.zr (α := Vector (GCase) 32) (M:=fun _=>none)),Xx (Zr.zr (α := Int) (M:=fun _=>none)),Xx (Zr.zr (α := Hole) (M:=fun _=>none))];rfl
instance:Zr GCluster where
 zd:={ nodes:=Zr.zd,logs:=Zr.zd,down:=Zr.zd,tear:=Zr.zd,cases:=Zr.zd,begun:=Zr.zd,net:=Zr.zd,acts:=Zr.zd }
 zc:=zGCluster
 zr:=GCluster.fol ⟨qx0,zp Ga,zp Ga,zp Ga,zp Ga,zp Ga,zp Ga,zp Ga,zp Ga⟩
structure GGraph where
 known:Vector (Bool) 32
 deps:Vector (List (Int)) 32
instance instRepGGraph:Rep GGraph where
 k:=64
 bytes:=800
 rep M cs d:=cs.length=64∧rep M (sl cs 0 32) d.known∧rep M (sl cs 32 32) d.deps
 len h:=h.1
 mono hm h:=by obtain ⟨h,e0,e1⟩:=h;exact ⟨h,Rep.mono hm e0,Rep.mono hm e1⟩
 one h:=fun u hu=>(o2 32 (Rep.one h.2.1) (Rep.one h.2.2)) u (qhp h.1 hu)
theorem GGraph.unf {M:Mm} {cs:List Value} {d:GGraph} (h:rep M cs d):cs.length=64∧rep M (sl cs 0 32) d.known∧rep M (sl cs 32 32) d.deps:=h
theorem GGraph.fol {M:Mm} {cs:List Value} {d:GGraph} (h:cs.length=64∧rep M (sl cs 0 32) d.known∧rep M (sl cs 32 32) d.deps):rep M cs d:=h
section
variable {M:Mm} {cs ws:List Value} {o q:Nat} {d:GGraph}
def GGraph.Y:Lay GGraph M:=⟨fun d=>[(0,32,fun c=>rep M c d.known),(32,32,fun c=>rep M c d.deps)],fun h=>h,fun h=>h⟩
theorem GGraph.p0 (h:rep M (sl cs o 64) d):rep M (sl cs (o+0) 32) d.known:=GGraph.Y.p 0 h rfl
theorem GGraph.u0 {x:Vector (Bool) 32} (h:rep M (sl cs o 64) d) (hx:Pn M cs ws q (o+0) 32 x):Pn M cs ws q o 64 { d with known:=x }:=GGraph.Y.u 0 h hx rfl
theorem GGraph.w0 {x:Vector (Bool) 32} (h:rep M cs d) (hx:rep M ws x):rep M (pt cs 0 ws) { d with known:=x }:=Wh h (GGraph.u0 (rr h) (Lf (GGraph.p0 (rr h)) hx))
theorem GGraph.p1 (h:rep M (sl cs o 64) d):rep M (sl cs (o+32) 32) d.deps:=GGraph.Y.p 1 h rfl
theorem GGraph.u1 {x:Vector (List (Int)) 32} (h:rep M (sl cs o 64) d) (hx:Pn M cs ws q (o+32) 32 x):Pn M cs ws q o 64 { d with deps:=x }:=GGraph.Y.u 1 h hx rfl
theorem GGraph.w1 {x:Vector (List (Int)) 32} (h:rep M cs d) (hx:rep M ws x):rep M (pt cs 32 ws) { d with deps:=x }:=Wh h (GGraph.u1 (rr h) (Lf (GGraph.p1 (rr h)) hx))
end
instance:Pos GGraph:=⟨by decide⟩
def zGGraph:List Value:=Zr.zc (Vector (Bool) 32)++Zr.zc (Vector (List (Int)) 32)
theorem q1w:zGGraph.length=64:=by
 simp only [zGGraph,X5,Xx (Zr.zr (α := Vector (Bool) 32) (M:=fun _=>none)),Xx (Zr.zr (α := Vector (List (Int)) 32) (M:=fun _=>none))];rfl
instance:Zr GGraph where
 zd:={ known:=Zr.zd,deps:=Zr.zd }
 zc:=zGGraph
 zr:=GGraph.fol ⟨q1w,zp Ga,zp Ga⟩
structure GReader where
 s:ByteArray
 bad:Bool
instance instRepGReader:Rep GReader where
 k:=2
 bytes:=24
 rep M cs d:=cs.length=2∧rep M (sl cs 0 1) d.s∧rep M (sl cs 1 1) d.bad
 len h:=h.1
 mono hm h:=by obtain ⟨h,e0,e1⟩:=h;exact ⟨h,Rep.mono hm e0,Rep.mono hm e1⟩
 one h:=fun u hu=>(o2 1 (Rep.one h.2.1) (Rep.one h.2.2)) u (qhp h.1 hu)
theorem GReader.unf {M:Mm} {cs:List Value} {d:GReader} (h:rep M cs d):cs.length=2∧rep M (sl cs 0 1) d.s∧rep M (sl cs 1 1) d.bad:=h
theorem GReader.fol {M:Mm} {cs:List Value} {d:GReader} (h:cs.length=2∧rep M (sl cs 0 1) d.s∧rep M (sl cs 1 1) d.bad):rep M cs d:=h
section
variable {M:Mm} {cs ws:List Value} {o q:Nat} {d:GReader}
def GReader.Y:Lay GReader M:=⟨fun d=>[(0,1,fun c=>rep M c d.s),(1,1,fun c=>rep M c d.bad)],fun h=>h,fun h=>h⟩
theorem GReader.p0 (h:rep M (sl cs o 2) d):rep M (sl cs (o+0) 1) d.s:=GReader.Y.p 0 h rfl
theorem GReader.u0 {x:ByteArray} (h:rep M (sl cs o 2) d) (hx:Pn M cs ws q (o+0) 1 x):Pn M cs ws q o 2 { d with s:=x }:=GReader.Y.u 0 h hx rfl
theorem GReader.w0 {x:ByteArray} (h:rep M cs d) (hx:rep M ws x):rep M (pt cs 0 ws) { d with s:=x }:=Wh h (GReader.u0 (rr h) (Lf (GReader.p0 (rr h)) hx))
theorem GReader.p1 (h:rep M (sl cs o 2) d):rep M (sl cs (o+1) 1) d.bad:=GReader.Y.p 1 h rfl
theorem GReader.u1 {x:Bool} (h:rep M (sl cs o 2) d) (hx:Pn M cs ws q (o+1) 1 x):Pn M cs ws q o 2 { d with bad:=x }:=GReader.Y.u 1 h hx rfl
theorem GReader.w1 {x:Bool} (h:rep M cs d) (hx:rep M ws x):rep M (pt cs 1 ws) { d with bad:=x }:=Wh h (GReader.u1 (rr h) (Lf (GReader.p1 (rr h)) hx))
end
instance:Pos GReader:=⟨by decide⟩
def zGReader:List Value:=Zr.zc (ByteArray)++Zr.zc (Bool)
theorem qzj:zGReader.length=2:=by
 simp only [zGReader,X5,Xx (Zr.zr (α := ByteArray) (M:=fun _=>none)),Xx (Zr.zr (α := Bool) (M:=fun _=>none))];rfl
instance:Zr GReader where
 zd:={ s:=Zr.zd,bad:=Zr.zd }
 zc:=zGReader
 zr:=GReader.fol ⟨qzj,zp Ga,zp Ga⟩
structure GSearch where
 g:GGraph
 mark_:Vector (Int) 32
 low:Vector (Int) 32
 on_:Vector (Bool) 32
 stack:Hole
 ring:Vector (Int) 32
 next:Int
instance instRepGSearch:Rep GSearch where
 k:=194
 bytes:=1632
 rep M cs d:=cs.length=194∧rep M (sl cs 0 64) d.g∧rep M (sl cs 64 32) d.mark_∧rep M (sl cs 96 32) d.low∧rep M (sl cs 128 32) d.on_∧rep M (sl cs 160 1) d.stack∧rep M (sl cs 161 32) d.ring∧rep M (sl cs 193 1) d.next
 len h:=h.1
 mono hm h:=by obtain ⟨h,e0,e1,e2,e3,e4,e5,e6⟩:=h;exact ⟨h,Rep.mono hm e0,Rep.mono hm e1,Rep.mono hm e2,Rep.mono hm e3,Rep.mono hm e4,Rep.mono hm e5,Rep.mono hm e6⟩
 one h:=fun u hu=>(o2 130 (Rep.one h.2.1) (o2 98 (Rep.one h.2.2.1) (o2 66 (Rep.one h.2.2.2.1) (o2 34 (Rep.one h.2.2.2.2.1) (o2 33 (Rep.one h.2.2.2.2.2.1) (o2 1 (Rep.one h.2.2.2.2.2.2.1) (Rep.one h.2.2.2.2.2.2.2))))))) u (qhp h.1 hu)
theorem GSearch.unf {M:Mm} {cs:List Value} {d:GSearch} (h:rep M cs d):cs.length=194∧rep M (sl cs 0 64) d.g∧rep M (sl cs 64 32) d.mark_∧rep M (sl cs 96 32) d.low∧rep M (sl cs 128 32) d.on_∧rep M (sl cs 160 1) d.stack∧rep M (sl cs 161 32) d.ring∧rep M (sl cs 193 1) d.next:=h
theorem GSearch.fol {M:Mm} {cs:List Value} {d:GSearch} (h:cs.length=194∧rep M (sl cs 0 64) d.g∧rep M (sl cs 64 32) d.mark_∧rep M (sl cs 96 32) d.low∧rep M (sl cs 128 32) d.on_∧rep M (sl cs 160 1) d.stack∧rep M (sl cs 161 32) d.ring∧rep M (sl cs 193 1) d.next):rep M cs d:=h
section
variable {M:Mm} {cs ws:List Value} {o q:Nat} {d:GSearch}
def GSearch.Y:Lay GSearch M:=⟨fun d=>[(0,64,fun c=>rep M c d.g),(64,32,fun c=>rep M c d.mark_),(96,32,fun c=>rep M c d.low),(128,32,fun c=>rep M c d.on_),(160,1,fun c=>rep M c d.stack),(161,32,fun c=>rep M c d.ring),(193,1,fun c=>rep M c d.next)],fun h=>h,fun h=>h⟩
theorem GSearch.p0 (h:rep M (sl cs o 194) d):rep M (sl cs (o+0) 64) d.g:=GSearch.Y.p 0 h rfl
theorem GSearch.u0 {x:GGraph} (h:rep M (sl cs o 194) d) (hx:Pn M cs ws q (o+0) 64 x):Pn M cs ws q o 194 { d with g:=x }:=GSearch.Y.u 0 h hx rfl
theorem GSearch.w0 {x:GGraph} (h:rep M cs d) (hx:rep M ws x):rep M (pt cs 0 ws) { d with g:=x }:=Wh h (GSearch.u0 (rr h) (Lf (GSearch.p0 (rr h)) hx))
theorem GSearch.p1 (h:rep M (sl cs o 194) d):rep M (sl cs (o+64) 32) d.mark_:=GSearch.Y.p 1 h rfl
theorem GSearch.u1 {x:Vector (Int) 32} (h:rep M (sl cs o 194) d) (hx:Pn M cs ws q (o+64) 32 x):Pn M cs ws q o 194 { d with mark_:=x }:=GSearch.Y.u 1 h hx rfl
theorem GSearch.w1 {x:Vector (Int) 32} (h:rep M cs d) (hx:rep M ws x):rep M (pt cs 64 ws) { d with mark_:=x }:=Wh h (GSearch.u1 (rr h) (Lf (GSearch.p1 (rr h)) hx))
theorem GSearch.p2 (h:rep M (sl cs o 194) d):rep M (sl cs (o+96) 32) d.low:=GSearch.Y.p 2 h rfl
theorem GSearch.u2 {x:Vector (Int) 32} (h:rep M (sl cs o 194) d) (hx:Pn M cs ws q (o+96) 32 x):Pn M cs ws q o 194 { d with low:=x }:=GSearch.Y.u 2 h hx rfl
theorem GSearch.w2 {x:Vector (Int) 32} (h:rep M cs d) (hx:rep M ws x):rep M (pt cs 96 ws) { d with low:=x }:=Wh h (GSearch.u2 (rr h) (Lf (GSearch.p2 (rr h)) hx))
theorem GSearch.p3 (h:rep M (sl cs o 194) d):rep M (sl cs (o+128) 32) d.on_:=GSearch.Y.p 3 h rfl
theorem GSearch.u3 {x:Vector (Bool) 32} (h:rep M (sl cs o 194) d) (hx:Pn M cs ws q (o+128) 32 x):Pn M cs ws q o 194 { d with on_:=x }:=GSearch.Y.u 3 h hx rfl
theorem GSearch.w3 {x:Vector (Bool) 32} (h:rep M cs d) (hx:rep M ws x):rep M (pt cs 128 ws) { d with on_:=x }:=Wh h (GSearch.u3 (rr h) (Lf (GSearch.p3 (rr h)) hx))
theorem GSearch.p4 (h:rep M (sl cs o 194) d):rep M (sl cs (o+160) 1) d.stack:=GSearch.Y.p 4 h rfl
theorem GSearch.u4 {x:Hole} (h:rep M (sl cs o 194) d) (hx:Pn M cs ws q (o+160) 1 x):Pn M cs ws q o 194 { d with stack:=x }:=GSearch.Y.u 4 h hx rfl
theorem GSearch.w4 {x:Hole} (h:rep M cs d) (hx:rep M ws x):rep M (pt cs 160 ws) { d with stack:=x }:=Wh h (GSearch.u4 (rr h) (Lf (GSearch.p4 (rr h)) hx))
theorem GSearch.p5 (h:rep M (sl cs o 194) d):rep M (sl cs (o+161) 32) d.ring:=GSearch.Y.p 5 h rfl
theorem GSearch.u5 {x:Vector (Int) 32} (h:rep M (sl cs o 194) d) (hx:Pn M cs ws q (o+161) 32 x):Pn M cs ws q o 194 { d with ring:=x }:=GSearch.Y.u 5 h hx rfl
theorem GSearch.w5 {x:Vector (Int) 32} (h:rep M cs d) (hx:rep M ws x):rep M (pt cs 161 ws) { d with ring:=x }:=Wh h (GSearch.u5 (rr h) (Lf (GSearch.p5 (rr h)) hx))
theorem GSearch.p6 (h:rep M (sl cs o 194) d):rep M (sl cs (o+193) 1) d.next:=GSearch.Y.p 6 h rfl
theorem GSearch.u6 {x:Int} (h:rep M (sl cs o 194) d) (hx:Pn M cs ws q (o+193) 1 x):Pn M cs ws q o 194 { d with next:=x }:=GSearch.Y.u 6 h hx rfl
theorem GSearch.w6 {x:Int} (h:rep M cs d) (hx:rep M ws x):rep M (pt cs 193 ws) { d with next:=x }:=Wh h (GSearch.u6 (rr h) (Lf (GSearch.p6 (rr h)) hx))
end
instance:Pos GSearch:=⟨by decide⟩
def zGSearch:List Value:=Zr.zc (GGraph)++Zr.zc (Vector (Int) 32)++Zr.zc (Vector (Int) 32)++Zr.zc (Vector (Bool) 32)++Zr.zc (Hole)++Zr.zc (Vector (Int) 32)++Zr.zc (Int)
theorem qzk:zGSearch.length=194:=by
 simp only [zGSearch,X5,Xx (Zr.zr (α := GGraph) (M:=fun _=>none)),Xx (Zr.zr (α := Vector (Int) 32) (M:=fun _=>none)),Xx (Zr.zr (α := Vector (Bool) 32) (M:=fun _=>none)),Xx (Zr.zr (α := Hole) (M:=fun _=>none)),Xx (Zr.zr (α := Int) (M:=fun _=>none))];rfl
instance:Zr GSearch where
 zd:={ g:=Zr.zd,mark_:=Zr.zd,low:=Zr.zd,on_:=Zr.zd,stack:=Zr.zd,ring:=Zr.zd,next:=Zr.zd }
 zc:=zGSearch
 zr:=GSearch.fol ⟨qzk,zp Ga,zp Ga,zp Ga,zp Ga,zp Ga,zp Ga,zp Ga⟩
theorem ts3:TS Tryz.prog 3:=⟨_,Tryz.underlying3,rfl⟩
theorem ts4:TS Tryz.prog 4:=⟨_,Tryz.underlying4,rfl⟩
theorem ts9:TS Tryz.prog 9:=⟨_,Tryz.underlying9,rfl⟩
theorem il22:IL Tryz.prog 22 4:=⟨_,Tryz.underlying22,by kernel_rfl⟩
theorem tp22:TP Tryz.prog 22 29 4 48:=qzd Tryz.underlying22 Ga E9 E9
theorem tl22:TL Tryz.prog 22 4:=qxx tp22
theorem il23:IL Tryz.prog 23 3:=⟨_,Tryz.underlying23,by kernel_rfl⟩
theorem tp23:TP Tryz.prog 23 48 3 40:=qzd Tryz.underlying23 Ga E9 E9
theorem tl23:TL Tryz.prog 23 3:=qxx tp23
theorem ts24:TS Tryz.prog 24:=⟨_,Tryz.underlying24,rfl⟩
theorem ts27:TS Tryz.prog 27:=⟨_,Tryz.underlying27,rfl⟩
theorem q8x:IL Tryz.prog 27 3:=⟨_,Tryz.underlying27,by kernel_rfl⟩
theorem zaj:TP Tryz.prog 27 99 3 24:=qzd Tryz.underlying27 Ga E9 E9
theorem tl27:TL Tryz.prog 27 3:=qxx zaj
theorem zdo:TA Tryz.prog 29 4:=⟨_,Tryz.underlying29,rfl,by kernel_rfl⟩
theorem tz29:TZ Tryz.prog 29 (Zr.zc GAct):=qkq Ga
theorem zdp:FA Tryz.prog 29 0 0:=⟨_,_,0,Tryz.underlying29,rfl,by kernel_rfl,rfl⟩
theorem zdq:FA Tryz.prog 29 1 1:=⟨_,_,0,Tryz.underlying29,rfl,by kernel_rfl,rfl⟩
theorem qwj:FA Tryz.prog 29 2 2:=⟨_,_,0,Tryz.underlying29,rfl,by kernel_rfl,rfl⟩
theorem zak:FA Tryz.prog 29 3 3:=⟨_,_,0,Tryz.underlying29,rfl,by kernel_rfl,rfl⟩
theorem tb29:TB Tryz.prog 29 (Zr.zc GAct) [(0,1),(1,1),(2,1),(3,1)]:=qsw Tryz.underlying29 tz29 Ga
theorem ts31:TS Tryz.prog 31:=⟨_,Tryz.underlying31,rfl⟩
theorem il31:IL Tryz.prog 31 1:=⟨_,Tryz.underlying31,by kernel_rfl⟩
theorem tp31:TP Tryz.prog 31 3 1 8:=qzd Tryz.underlying31 Ga E9 E9
theorem tl31:TL Tryz.prog 31 1:=qxx tp31
theorem zal:TA Tryz.prog 33 6:=⟨_,Tryz.underlying33,rfl,by kernel_rfl⟩
theorem q9i:TZ Tryz.prog 33 (Zr.zc GEntry):=qkq Ga
theorem zdr:FA Tryz.prog 33 0 0:=⟨_,_,0,Tryz.underlying33,rfl,by kernel_rfl,rfl⟩
theorem zds:FA Tryz.prog 33 1 1:=⟨_,_,0,Tryz.underlying33,rfl,by kernel_rfl,rfl⟩
theorem zdt:FA Tryz.prog 33 2 2:=⟨_,_,0,Tryz.underlying33,rfl,by kernel_rfl,rfl⟩
theorem zdu:FA Tryz.prog 33 3 3:=⟨_,_,0,Tryz.underlying33,rfl,by kernel_rfl,rfl⟩
theorem zdv:FA Tryz.prog 33 4 4:=⟨_,_,0,Tryz.underlying33,rfl,by kernel_rfl,rfl⟩
theorem zdw:FA Tryz.prog 33 5 5:=⟨_,_,0,Tryz.underlying33,rfl,by kernel_rfl,rfl⟩
theorem zgt:TB Tryz.prog 33 (Zr.zc GEntry) [(0,1),(1,1),(2,1),(3,1),(4,1),(5,1)]:=qsw Tryz.underlying33 q9i Ga
theorem zfj:TA Tryz.prog 34 192:=⟨_,Tryz.underlying34,rfl,by kernel_rfl⟩
theorem ia34:IA Tryz.prog 34 32 6:=⟨_,Tryz.underlying34,by kernel_rfl⟩
theorem zfk:IVn Tryz.prog 34 32 6:=⟨_,Tryz.underlying34,by kernel_rfl,_,Tryz.underlying33,rfl,by kernel_rfl⟩
theorem zdx:IA Tryz.prog 35 8 1:=⟨_,Tryz.underlying35,by kernel_rfl⟩
theorem ta37:TA Tryz.prog 37 201:=⟨_,Tryz.underlying37,rfl,by kernel_rfl⟩
theorem tz37:TZ Tryz.prog 37 (Zr.zc GNode):=qkq Ga
theorem zdy:FA Tryz.prog 37 0 0:=⟨_,_,191,Tryz.underlying37,rfl,by kernel_rfl,rfl⟩
theorem zdz:FA Tryz.prog 37 1 192:=⟨_,_,0,Tryz.underlying37,rfl,by kernel_rfl,rfl⟩
theorem qzl:FA Tryz.prog 37 2 193:=⟨_,_,7,Tryz.underlying37,rfl,by kernel_rfl,rfl⟩
theorem zba:TB Tryz.prog 37 (Zr.zc GNode) [(0,192),(192,1),(193,8)]:=qsw Tryz.underlying37 tz37 Ga
theorem q9j:IA Tryz.prog 38 6 201:=⟨_,Tryz.underlying38,by kernel_rfl⟩
theorem ia39:IA Tryz.prog 39 6 1:=⟨_,Tryz.underlying39,by kernel_rfl⟩
theorem zco:TA Tryz.prog 40 6:=⟨_,Tryz.underlying40,rfl,by kernel_rfl⟩
theorem tz40:TZ Tryz.prog 40 (Zr.zc (Vector (Bool) 6)):=qkq Ga
theorem ia40:IA Tryz.prog 40 6 1:=⟨_,Tryz.underlying40,by kernel_rfl⟩
theorem q9k:IA Tryz.prog 41 6 1:=⟨_,Tryz.underlying41,by kernel_rfl⟩
theorem q9l:TS Tryz.prog 42:=⟨_,Tryz.underlying42,rfl⟩
theorem zfl:IL Tryz.prog 42 24:=⟨_,Tryz.underlying42,by kernel_rfl⟩
theorem tp42:TP Tryz.prog 42 62 24 112:=qzd Tryz.underlying42 Ga E9 E9
theorem tl42:TL Tryz.prog 42 24:=qxx tp42
theorem q63:TS Tryz.prog 43:=⟨_,Tryz.underlying43,rfl⟩
theorem zcp:IL Tryz.prog 43 1:=⟨_,Tryz.underlying43,by kernel_rfl⟩
theorem zbb:TP Tryz.prog 43 9 1 16:=qzd Tryz.underlying43 Ga E9 E9
theorem zfm:TL Tryz.prog 43 1:=qxx zbb
theorem tz45:TZ Tryz.prog 45 (Zr.zc GRefCluster):=qkq Ga
theorem q3u:FA Tryz.prog 45 0 0:=⟨_,_,1205,Tryz.underlying45,rfl,by kernel_rfl,rfl⟩
theorem zd0:FA Tryz.prog 45 1 1206:=⟨_,_,5,Tryz.underlying45,rfl,by kernel_rfl,rfl⟩
theorem q3v:FA Tryz.prog 45 2 1212:=⟨_,_,5,Tryz.underlying45,rfl,by kernel_rfl,rfl⟩
theorem q3w:FA Tryz.prog 45 3 1218:=⟨_,_,5,Tryz.underlying45,rfl,by kernel_rfl,rfl⟩
theorem zd1:FA Tryz.prog 45 4 1224:=⟨_,_,0,Tryz.underlying45,rfl,by kernel_rfl,rfl⟩
theorem zd2:FA Tryz.prog 45 5 1225:=⟨_,_,0,Tryz.underlying45,rfl,by kernel_rfl,rfl⟩
theorem q64:FA Tryz.prog 45 6 1226:=⟨_,_,0,Tryz.underlying45,rfl,by kernel_rfl,rfl⟩
theorem tb45:TB Tryz.prog 45 (Zr.zc GRefCluster) [(0,1206),(1206,6),(1212,6),(1218,6),(1224,1),(1225,1),(1226,1)]:=qsw Tryz.underlying45 tz45 Ga
theorem ta48:TA Tryz.prog 48 3:=⟨_,Tryz.underlying48,rfl,by kernel_rfl⟩
theorem q9m:TZ Tryz.prog 48 (Zr.zc GReply):=qkq Ga
theorem zam:FA Tryz.prog 48 0 0:=⟨_,_,0,Tryz.underlying48,rfl,by kernel_rfl,rfl⟩
theorem zan:FA Tryz.prog 48 1 1:=⟨_,_,0,Tryz.underlying48,rfl,by kernel_rfl,rfl⟩
theorem zao:FA Tryz.prog 48 2 2:=⟨_,_,0,Tryz.underlying48,rfl,by kernel_rfl,rfl⟩
theorem tb48:TB Tryz.prog 48 (Zr.zc GReply) [(0,1),(1,1),(2,1)]:=qsw Tryz.underlying48 q9m Ga
theorem zgu:TA Tryz.prog 59 4:=⟨_,Tryz.underlying59,rfl,by kernel_rfl⟩
theorem tz59:TZ Tryz.prog 59 (Zr.zc (Vector (Bool) 4)):=qkq Ga
theorem zbc:IA Tryz.prog 59 4 1:=⟨_,Tryz.underlying59,by kernel_rfl⟩
theorem zgv:TA Tryz.prog 60 4:=⟨_,Tryz.underlying60,rfl,by kernel_rfl⟩
theorem tz60:TZ Tryz.prog 60 (Zr.zc (Vector (Int) 4)):=qkq Ga
theorem zd3:IA Tryz.prog 60 4 1:=⟨_,Tryz.underlying60,by kernel_rfl⟩
theorem ta62:TA Tryz.prog 62 24:=⟨_,Tryz.underlying62,rfl,by kernel_rfl⟩
theorem tz62:TZ Tryz.prog 62 (Zr.zc GCase):=qkq Ga
theorem zd4:FA Tryz.prog 62 0 0:=⟨_,_,0,Tryz.underlying62,rfl,by kernel_rfl,rfl⟩
theorem zd5:FA Tryz.prog 62 1 1:=⟨_,_,0,Tryz.underlying62,rfl,by kernel_rfl,rfl⟩
theorem zd6:FA Tryz.prog 62 2 2:=⟨_,_,0,Tryz.underlying62,rfl,by kernel_rfl,rfl⟩
theorem zd7:FA Tryz.prog 62 3 3:=⟨_,_,5,Tryz.underlying62,rfl,by kernel_rfl,rfl⟩
theorem zd8:FA Tryz.prog 62 4 9:=⟨_,_,5,Tryz.underlying62,rfl,by kernel_rfl,rfl⟩
theorem zd9:FA Tryz.prog 62 5 15:=⟨_,_,0,Tryz.underlying62,rfl,by kernel_rfl,rfl⟩
theorem zea:FA Tryz.prog 62 6 16:=⟨_,_,3,Tryz.underlying62,rfl,by kernel_rfl,rfl⟩
theorem zeb:FA Tryz.prog 62 7 20:=⟨_,_,3,Tryz.underlying62,rfl,by kernel_rfl,rfl⟩
theorem zbd:TB Tryz.prog 62 (Zr.zc GCase) [(0,1),(1,1),(2,1),(3,6),(9,6),(15,1),(16,4),(20,4)]:=qsw Tryz.underlying62 tz62 Ga
theorem il67:IL Tryz.prog 67 7:=⟨_,Tryz.underlying67,by kernel_rfl⟩
theorem q9n:TP Tryz.prog 67 82 7 120:=qzd Tryz.underlying67 Ga E9 E9
theorem q8y:TL Tryz.prog 67 7:=qxx q9n
theorem tz71:TZ Tryz.prog 71 (Zr.zc GTxn):=qkq Ga
theorem qzm:FA Tryz.prog 71 0 0:=⟨_,_,0,Tryz.underlying71,rfl,by kernel_rfl,rfl⟩
theorem q3x:FA Tryz.prog 71 1 1:=⟨_,_,0,Tryz.underlying71,rfl,by kernel_rfl,rfl⟩
theorem tb71:TB Tryz.prog 71 (Zr.zc GTxn) [(0,1),(1,1)]:=qsw Tryz.underlying71 tz71 Ga
theorem ta82:TA Tryz.prog 82 7:=⟨_,Tryz.underlying82,rfl,by kernel_rfl⟩
theorem q59:TZ Tryz.prog 82 (Zr.zc GFrame):=qkq Ga
theorem zec:FA Tryz.prog 82 0 0:=⟨_,_,0,Tryz.underlying82,rfl,by kernel_rfl,rfl⟩
theorem zed:FA Tryz.prog 82 1 1:=⟨_,_,0,Tryz.underlying82,rfl,by kernel_rfl,rfl⟩
theorem zee:FA Tryz.prog 82 2 2:=⟨_,_,0,Tryz.underlying82,rfl,by kernel_rfl,rfl⟩
theorem zef:FA Tryz.prog 82 3 3:=⟨_,_,0,Tryz.underlying82,rfl,by kernel_rfl,rfl⟩
theorem zeg:FA Tryz.prog 82 4 4:=⟨_,_,0,Tryz.underlying82,rfl,by kernel_rfl,rfl⟩
theorem zeh:FA Tryz.prog 82 5 5:=⟨_,_,0,Tryz.underlying82,rfl,by kernel_rfl,rfl⟩
theorem zei:FA Tryz.prog 82 6 6:=⟨_,_,0,Tryz.underlying82,rfl,by kernel_rfl,rfl⟩
theorem tb82:TB Tryz.prog 82 (Zr.zc GFrame) [(0,1),(1,1),(2,1),(3,1),(4,1),(5,1),(6,1)]:=qsw Tryz.underlying82 q59 Ga
theorem zej:IA Tryz.prog 87 32 24:=⟨_,Tryz.underlying87,by kernel_rfl⟩
theorem tz89:TZ Tryz.prog 89 (Zr.zc GCluster):=qkq Ga
theorem qzn:FA Tryz.prog 89 0 0:=⟨_,_,1205,Tryz.underlying89,rfl,by kernel_rfl,rfl⟩
theorem zek:FA Tryz.prog 89 1 1206:=⟨_,_,5,Tryz.underlying89,rfl,by kernel_rfl,rfl⟩
theorem qzo:FA Tryz.prog 89 2 1212:=⟨_,_,5,Tryz.underlying89,rfl,by kernel_rfl,rfl⟩
theorem qzp:FA Tryz.prog 89 3 1218:=⟨_,_,5,Tryz.underlying89,rfl,by kernel_rfl,rfl⟩
theorem qzq:FA Tryz.prog 89 4 1224:=⟨_,_,767,Tryz.underlying89,rfl,by kernel_rfl,rfl⟩
theorem zel:FA Tryz.prog 89 5 1992:=⟨_,_,0,Tryz.underlying89,rfl,by kernel_rfl,rfl⟩
theorem zem:FA Tryz.prog 89 6 1993:=⟨_,_,0,Tryz.underlying89,rfl,by kernel_rfl,rfl⟩
theorem q65:FA Tryz.prog 89 7 1994:=⟨_,_,0,Tryz.underlying89,rfl,by kernel_rfl,rfl⟩
theorem tb89:TB Tryz.prog 89 (Zr.zc GCluster) [(0,1206),(1206,6),(1212,6),(1218,6),(1224,768),(1992,1),(1993,1),(1994,1)]:=qsw Tryz.underlying89 tz89 Ga
theorem q8z:TA Tryz.prog 99 3:=⟨_,Tryz.underlying99,rfl,by kernel_rfl⟩
theorem zbe:TZ Tryz.prog 99 (Zr.zc GOp):=qkq Ga
theorem zap:FA Tryz.prog 99 0 0:=⟨_,_,0,Tryz.underlying99,rfl,by kernel_rfl,rfl⟩
theorem zen:FA Tryz.prog 99 1 1:=⟨_,_,0,Tryz.underlying99,rfl,by kernel_rfl,rfl⟩
theorem zaq:FA Tryz.prog 99 2 2:=⟨_,_,0,Tryz.underlying99,rfl,by kernel_rfl,rfl⟩
theorem tb99:TB Tryz.prog 99 (Zr.zc GOp) [(0,1),(1,1),(2,1)]:=qsw Tryz.underlying99 zbe Ga
theorem zeo:TZ Tryz.prog 118 (Zr.zc (Vector (Int) 2)):=qkq Ga
theorem q4w:IA Tryz.prog 118 2 1:=⟨_,Tryz.underlying118,by kernel_rfl⟩
theorem zgw:TA Tryz.prog 125 32:=⟨_,Tryz.underlying125,rfl,by kernel_rfl⟩
theorem q1x:TZ Tryz.prog 125 (Zr.zc (Vector (Bool) 32)):=qkq Ga
theorem zgx:IA Tryz.prog 125 32 1:=⟨_,Tryz.underlying125,by kernel_rfl⟩
theorem zep:IV1 Tryz.prog 125 32:=⟨_,Tryz.underlying125,by kernel_rfl,_,Tryz.underlying4,rfl⟩
theorem q4x:IA Tryz.prog 126 32 1:=⟨_,Tryz.underlying126,by kernel_rfl⟩
theorem zgy:TA Tryz.prog 128 64:=⟨_,Tryz.underlying128,rfl,by kernel_rfl⟩
theorem q4y:TZ Tryz.prog 128 (Zr.zc GGraph):=qkq Ga
theorem zbf:FA Tryz.prog 128 0 0:=⟨_,_,31,Tryz.underlying128,rfl,by kernel_rfl,rfl⟩
theorem zbg:FA Tryz.prog 128 1 32:=⟨_,_,31,Tryz.underlying128,rfl,by kernel_rfl,rfl⟩
theorem zgz:TZ Tryz.prog 135 (Zr.zc GReader):=qkq Ga
theorem qtq:FA Tryz.prog 135 0 0:=⟨_,_,0,Tryz.underlying135,rfl,by kernel_rfl,rfl⟩
theorem qtr:FA Tryz.prog 135 1 1:=⟨_,_,0,Tryz.underlying135,rfl,by kernel_rfl,rfl⟩
theorem zg0:TB Tryz.prog 135 (Zr.zc GReader) [(0,1),(1,1)]:=qsw Tryz.underlying135 zgz Ga
theorem qzr:TP Tryz.prog 137 5 1 1:=qzd Tryz.underlying137 Ga E9 E9
theorem q1y:TL Tryz.prog 137 1:=qxx qzr
theorem zg1:TZ Tryz.prog 144 (Zr.zc (Vector (Vector (Bool) 32) 32)):=qkq Ga
theorem q4z:IA Tryz.prog 144 32 32:=⟨_,Tryz.underlying144,by kernel_rfl⟩
theorem zg2:IA Tryz.prog 152 32 1:=⟨_,Tryz.underlying152,by kernel_rfl⟩
theorem zg3:TZ Tryz.prog 154 (Zr.zc GSearch):=qkq Ga
theorem q66:FA Tryz.prog 154 0 0:=⟨_,_,63,Tryz.underlying154,rfl,by kernel_rfl,rfl⟩
theorem zbh:FA Tryz.prog 154 1 64:=⟨_,_,31,Tryz.underlying154,rfl,by kernel_rfl,rfl⟩
theorem zbi:FA Tryz.prog 154 2 96:=⟨_,_,31,Tryz.underlying154,rfl,by kernel_rfl,rfl⟩
theorem q1z:FA Tryz.prog 154 3 128:=⟨_,_,31,Tryz.underlying154,rfl,by kernel_rfl,rfl⟩
theorem zbj:FA Tryz.prog 154 4 160:=⟨_,_,0,Tryz.underlying154,rfl,by kernel_rfl,rfl⟩
theorem qts:FA Tryz.prog 154 5 161:=⟨_,_,31,Tryz.underlying154,rfl,by kernel_rfl,rfl⟩
theorem qx1:FA Tryz.prog 154 6 193:=⟨_,_,0,Tryz.underlying154,rfl,by kernel_rfl,rfl⟩
theorem zg4:TB Tryz.prog 154 (Zr.zc GSearch) [(0,64),(64,32),(96,32),(128,32),(160,1),(161,32),(193,1)]:=qsw Tryz.underlying154 zg3 Ga
theorem cb5:CB Tryz.prog 5:=qah Ga
theorem cb6:CB Tryz.prog 6:=qah Ga
theorem cb7:CB Tryz.prog 7:=qah Ga
theorem cb8:CB Tryz.prog 8:=qah Ga
theorem cb9:CB Tryz.prog 9:=qah Ga
theorem cb15:CB Tryz.prog 15:=qah Ga
theorem zcq:CB Tryz.prog 17:=qah Ga
theorem q67:CB Tryz.prog 18:=qah Ga
theorem cb19:CB Tryz.prog 19:=qah Ga
theorem zfn:CB Tryz.prog 20:=qah Ga
theorem zg5:CB Tryz.prog 21:=qah Ga
theorem cb22:CB Tryz.prog 22:=qah Ga
theorem cb23:CB Tryz.prog 23:=qah Ga
theorem cb24:CB Tryz.prog 24:=qah Ga
theorem cb25:CB Tryz.prog 25:=qah Ga
theorem cb26:CB Tryz.prog 26:=qah Ga
theorem cb27:CB Tryz.prog 27:=qah Ga
theorem cb28:CB Tryz.prog 28:=qah Ga
theorem zg6:CB Tryz.prog 29:=qah Ga
theorem cb30:CB Tryz.prog 30:=qah Ga
theorem cb31:CB Tryz.prog 31:=qah Ga
theorem zfo:CB Tryz.prog 32:=qah Ga
theorem zg7:CB Tryz.prog 33:=qah Ga
theorem cb34:CB Tryz.prog 34:=qah Ga
theorem cb35:CB Tryz.prog 35:=qah Ga
theorem cb37:CB Tryz.prog 37:=qah Ga
theorem cb39:CB Tryz.prog 39:=qah Ga
theorem cb40:CB Tryz.prog 40:=qah Ga
theorem cb41:CB Tryz.prog 41:=qah Ga
theorem zbk:CB Tryz.prog 42:=qah Ga
theorem zfp:CB Tryz.prog 43:=qah Ga
theorem cb44:CB Tryz.prog 44:=qah Ga
theorem zg8:CB Tryz.prog 45:=qah Ga
theorem zbl:CB Tryz.prog 46:=qah Ga
theorem zbm:CB Tryz.prog 47:=qah Ga
theorem zeq:CB Tryz.prog 48:=qah Ga
theorem zg9:CB Tryz.prog 49:=qah Ga
theorem zha:CB Tryz.prog 50:=qah Ga
theorem zer:CB Tryz.prog 51:=qah Ga
theorem cb52:CB Tryz.prog 52:=qah Ga
theorem zfq:CB Tryz.prog 53:=qah Ga
theorem cb54:CB Tryz.prog 54:=qah Ga
theorem cb55:CB Tryz.prog 55:=qah Ga
theorem cb56:CB Tryz.prog 56:=qah Ga
theorem cb57:CB Tryz.prog 57:=qah Ga
theorem zhb:CB Tryz.prog 58:=qah Ga
theorem cb59:CB Tryz.prog 59:=qah Ga
theorem cb60:CB Tryz.prog 60:=qah Ga
theorem cb61:CB Tryz.prog 61:=qah Ga
theorem cb62:CB Tryz.prog 62:=qah Ga
theorem cb63:CB Tryz.prog 63:=qah Ga
theorem cb64:CB Tryz.prog 64:=qah Ga
theorem zhc:CB Tryz.prog 65:=qah Ga
theorem zar:CB Tryz.prog 66:=qah Ga
theorem zes:CB Tryz.prog 67:=qah Ga
theorem zet:CB Tryz.prog 68:=qah Ga
theorem cb69:CB Tryz.prog 69:=qah Ga
theorem cb70:CB Tryz.prog 70:=qah Ga
theorem cb71:CB Tryz.prog 71:=qah Ga
theorem cb72:CB Tryz.prog 72:=qah Ga
theorem cb73:CB Tryz.prog 73:=qah Ga
theorem cb74:CB Tryz.prog 74:=qah Ga
theorem zfr:CB Tryz.prog 75:=qah Ga
theorem cb76:CB Tryz.prog 76:=qah Ga
theorem cb77:CB Tryz.prog 77:=qah Ga
theorem cb78:CB Tryz.prog 78:=qah Ga
theorem cb79:CB Tryz.prog 79:=qah Ga
theorem cb80:CB Tryz.prog 80:=qah Ga
theorem cb81:CB Tryz.prog 81:=qah Ga
theorem cb82:CB Tryz.prog 82:=qah Ga
theorem zfs:CB Tryz.prog 83:=qah Ga
theorem q68:CB Tryz.prog 84:=qah Ga
theorem cb85:CB Tryz.prog 85:=qah Ga
theorem zft:CB Tryz.prog 86:=qah Ga
theorem zhd:CB Tryz.prog 87:=qah Ga
theorem cb88:CB Tryz.prog 88:=qah Ga
theorem cb89:CB Tryz.prog 89:=qah Ga
theorem cb90:CB Tryz.prog 90:=qah Ga
theorem cb91:CB Tryz.prog 91:=qah Ga
theorem zhe:CB Tryz.prog 92:=qah Ga
theorem cb93:CB Tryz.prog 93:=qah Ga
theorem zbn:CB Tryz.prog 94:=qah Ga
theorem cb96:CB Tryz.prog 96:=qah Ga
theorem cb97:CB Tryz.prog 97:=qah Ga
theorem cb98:CB Tryz.prog 98:=qah Ga
theorem cb99:CB Tryz.prog 99:=qah Ga
theorem zhf:CB Tryz.prog 100:=qah Ga
theorem zhg:CB Tryz.prog 101:=qah Ga
theorem zeu:CB Tryz.prog 102:=qah Ga
theorem zhh:CB Tryz.prog 103:=qah Ga
theorem zhi:CB Tryz.prog 104:=qah Ga
theorem zhj:CB Tryz.prog 105:=qah Ga
theorem zhk:CB Tryz.prog 106:=qah Ga
theorem zhl:CB Tryz.prog 107:=qah Ga
theorem zhm:CB Tryz.prog 108:=qah Ga
theorem zev:CB Tryz.prog 109:=qah Ga
theorem zhn:CB Tryz.prog 110:=qah Ga
theorem zho:CB Tryz.prog 111:=qah Ga
theorem zhp:CB Tryz.prog 112:=qah Ga
theorem zfu:EG Tryz.prog 40 (Vector (Bool) 6):=⟨by kernel_rfl,(qxy Tryz.underlying40 Ga Ga (q6w Tryz.underlying4)).le E9⟩
theorem eg59:EG Tryz.prog 59 (Vector (Bool) 4):=⟨by kernel_rfl,(qxy Tryz.underlying59 Ga Ga (q6w Tryz.underlying4)).le E9⟩
theorem eg60:EG Tryz.prog 60 (Vector (Int) 4):=⟨by kernel_rfl,(qxy Tryz.underlying60 Ga Ga (q3r Tryz.underlying3)).le E9⟩
theorem eg99:EG Tryz.prog 99 GOp:=⟨by kernel_rfl,fun M M' w d xs ys x y hd hx hy=>by
 obtain ⟨d,rfl⟩:∃ e,d=e+1:=⟨d-1,by omega⟩
 obtain ⟨_,a0,a1,a2⟩:=GOp.unf hx
 obtain ⟨_,b0,b1,b2⟩:=GOp.unf hy
 rw [run_equalIn_agg w d 99 _ _ (by unfold Program.fieldsOf;rw [Tryz.underlying99]) Ga]
 unfold Program.fieldsOf
 rw [Tryz.underlying99]
 refine Eq.trans (qxz (o:=0) (k:=1) (by simp) (q3r Tryz.underlying3) (by rfl) E8 (by rfl) rfl a0 b0 (qxz (o:=1) (k:=1) (by simp) (q3r Tryz.underlying3) (by rfl) E8 (by rfl) rfl a1 b1 (qxz (o:=2) (k:=1) (by simp) (q3r Tryz.underlying3) (by rfl) E8 (by rfl) rfl a2 b2 (za9 w)))) ?_
 congr 1
 cases x
 cases y
 simp⟩
theorem mixed:Tryz.prog.follows .mixedOrders=true:=by kernel_rfl
end Go.Proofs.YtaimhfbbenbdaaaGreat
