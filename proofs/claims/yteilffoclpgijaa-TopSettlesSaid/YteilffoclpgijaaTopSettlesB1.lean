/- What the proof of TopSettles rests on, part 1: rules of walks, what functions compute, and plain laws of it. -/
import Derived.WalkKit
import Derived.WalkSpells
import Derived.WalkLawsBesides
import Derived.OrdersHeld
import Derived.Deep.MidRow
import Derived.Maps.AppendAt
import Derived.BigQuiet
import Derived.Lib.Hide
import Derived.Deep.QuietTactic
import Derived.Deep.DeepFit
import Derived.Laws.BytesArg
import Derived.Lib.Strings
import Derived.Laws.StructEq
import Derived.ChangeKeysEq
import Derived.Test.YteilffoclpgijaaRows
namespace Go.Proofs.Yteilffoclpgijaa
open Go.RowKit
abbrev Tm:=Nat→Value
def upd (T:Tm) (d:Nat) (v:Value):Tm:=fun k=>bif Nat.beq k d then v else T k
def evT (T:Tm):Operand→Value
 | .tmp t=>T t
 | .const v=>v
 | .global g => .pointer (some ⟨g,0,none⟩)
 | .func f => .func (.func f) #[] #[]
def qmg (T:Tm):Option Nat→Value→Tm
 | some d,v=>upd T d v
 | none,_=>T
def Fr (n:Nat) (T:Tm) (a:Act):Prop:=a.tmps.size=n∧a.defers=[] ∧ ∀ k,a.tmps.getD k undef=T k
theorem Fr.eval {n:Nat} {T:Tm} {a:Act} (h:Fr n T a):a.eval=evT T:=by
 funext x
 cases x with
 | tmp t=>exact h.2.2 t
 | _=>rfl
theorem Fr.put {n:Nat} {T:Tm} {a:Act} (h:Fr n T a) (dst:Option Nat) (v:Value) (hd : ∀ d,dst=some d→d<n):Fr n (qmg T dst v) (a.put dst v):=by
 cases dst with
 | none=>exact h
 | some d =>
  have hd:=hd d rfl
  refine ⟨by simp [Act.put,h.1],h.2.1,fun k => ?_⟩
  simp only [Act.put,qmg,upd]
  rw [Array.getD_eq_getD_getElem?,Array.getElem?_setIfInBounds]
  by_cases e:k=d
  ·subst e
   have hb:Nat.beq k k=true:=Nat.beq_refl k
   rw [hb,if_pos rfl,if_pos (by rw [h.1];exact hd)]
   rfl
  ·have hb:Nat.beq k d=false:=Bool.eq_false_iff.2 fun h=>e (Nat.eq_of_beq_eq_true h)
   rw [if_neg (fun h=>e h.symm),hb,← Array.getD_eq_getD_getElem?]
   exact h.2.2 k
def operOk (n:Nat) (o:Oper):Bool:=match o.dst with | some d=>Nat.blt d n | none=>true
def qfh (n:Nat):Code→Bool
 | .region _ ops _=>ops.toList.all (operOk n)
 | .seq a b=>qfh n a&&qfh n b
 | .cond _ a b=>qfh n a&&qfh n b
 | .block _ b=>qfh n b
 | .loop b=>qfh n b
 | .scope b=>qfh n b
 | _=>true
theorem operOk.lt {n:Nat} {o:Oper} (h:operOk n o=true) : ∀ d,o.dst=some d→d<n:=by
 intro d hd
 unfold operOk at h
 rw [hd] at h
 exact Nat.le_of_ble_eq_true h
def Qx (n:Nat) (Q:Exit→Tm→World→Prop):Exit→Act→World→Prop:=fun e a w =>
 match e with
 | .panic _=>False
 | .outgrown=>False
 | e => ∃ T,Fr n T a∧Q e T w
section
variable {P:Program} {n:Nat} {Q:Exit→Tm→World→Prop} {T:Tm} {w:World}
def W (P:Program) (n:Nat) (c:Code) (Q:Exit→Tm→World→Prop) (T:Tm) (w:World):Prop :=
 qfh n c=true → ∀ a,Fr n T a→c.wp P (Qx n Q) a w
def qs1 (next:Tm→World→Prop) (Q:Exit→Tm→World→Prop):Exit→Tm→World→Prop:=fun e T w =>
 match e with
 | .normal=>next T w
 | e=>Q e T w
def q65 (id:Nat) (Q:Exit→Tm→World→Prop):Exit→Tm→World→Prop:=fun e T w =>
 match e with
 | .exit id'=>bif Nat.beq id' id then Q .normal T w else Q (.exit id') T w
 | e=>Q e T w
theorem q7g {x y:Code} (h:W P n x (qs1 (W P n y Q) Q) T w):W P n (.seq x y) Q T w:=by
 intro hok a ha
 simp only [qfh,Bool.and_eq_true] at hok
 refine wp_seq (wp_mono (h hok.1 a ha) ?_)
 intro e a' w' hq
 cases e<;>simp only [Qx,qs1,Exit.then] at hq ⊢ <;> try exact hq
 obtain ⟨T',hf,hw⟩:=hq
 exact hw hok.2 a' hf
theorem q5k {id:Nat} {c:Code} (h:W P n c (q65 id Q) T w):W P n (.block id c) Q T w:=by
 intro hok a ha
 refine wp_block (wp_mono (h hok a ha) ?_)
 intro e a' w' hq
 cases e<;>simp only [Qx,q65,Exit.inBlock] at hq ⊢ <;> try exact hq
 rename_i id'
 obtain ⟨T',hf,hw⟩:=hq
 by_cases hid:id'=id
 ·subst hid
  rw [Nat.beq_refl] at hw
  rw [if_pos rfl]
  exact ⟨T',hf,hw⟩
 ·have hb:Nat.beq id' id=false:=Bool.eq_false_iff.2 fun h=>hid (Nat.eq_of_beq_eq_true h)
  rw [hb] at hw
  rw [if_neg hid]
  exact ⟨T',hf,hw⟩
theorem q41 {c:Operand} {x y:Code} {b:Bool} (hc:evT T c = .bool b) (ht:b=true→W P n x Q T w) (hf:b=false→W P n y Q T w):W P n (.cond c x y) Q T w:=by
 intro hok a ha
 simp only [qfh,Bool.and_eq_true] at hok
 exact wp_cond_split (by rw [ha.eval];exact hc) (fun h=>ht h hok.1 a ha) (fun h=>hf h hok.2 a ha)
theorem qrx {c:Operand} {x y:Code} (hc:evT T c = .bool false) (hf:W P n y Q T w):W P n (.cond c x y) Q T w :=
 q41 hc (fun h=>by cases h) (fun _=>hf)
theorem q7h (h:Q .normal T w):W P n .skip Q T w:=fun _ _ ha=>wp_skip ⟨T,ha,h⟩
theorem q7i {id:Nat} (h:Q (.exit id) T w):W P n (.exit id) Q T w:=fun _ _ ha=>wp_exit ⟨T,ha,h⟩
theorem q9u (h:Q .ret T w):W P n .ret Q T w:=fun _ _ ha=>wp_ret ⟨T,ha,h⟩
theorem q0e {c:Code} {Q':Exit→Tm→World→Prop} (hq : ∀ e T w,Q e T w→Q' e T w) (h:W P n c Q T w):W P n c Q' T w:=by
 intro hok a ha
 refine wp_mono (h hok a ha) ?_
 intro e a' w' hx
 cases e<;>simp only [Qx] at hx ⊢ <;> first | exact hx | (obtain ⟨T',hf,hw⟩:=hx;exact ⟨T',hf,hq _ _ _ hw⟩)
theorem q7j {c:Code} (I:Nat→Tm→World→Prop) (m:Nat) (h0:I m T w) (hz : ∀ T w,¬ I 0 T w)
  (hs : ∀ k T w,I (k+1) T w→W P n c (qs1 (I k) Q) T w):W P n (.loop c) Q T w:=by
 intro hok a ha
 have hok':qfh n c=true:=hok
 intro b k cs
 have key : ∀ m a T w,Fr n T a→I m T w →
   ∃ e a' w',Qx n Q e a' w'∧Arrives P (lone (b.at a (.code c :: .inLoop c::k)) cs w) b k cs e a' w':=by
  intro m
  induction m with
  | zero=>intro a T w _ hI;exact absurd hI (hz _ _)
  | succ m ih =>
   intro a T w hf hI
   obtain ⟨e,a₁,w₁,hq,harr⟩:=hs m T w hI hok' a hf b (.inLoop c::k) cs
   cases e with
   | normal =>
    obtain ⟨T',hf',hI'⟩:=hq
    obtain ⟨e₂,a₂,w₂,hq₂,harr₂⟩:=ih a₁ T' w₁ hf' hI'
    exact ⟨e₂,a₂,w₂,hq₂,.of_steps (Steps.trans harr (.one step_inLoop)) harr₂⟩
   | exit id=>exact ⟨.exit id,a₁,w₁,(show Qx n Q (.exit id) a₁ w₁ from hq),.pass (x := .inLoop c) rfl (fun _ _ => .inl (by simp)) harr⟩
   | goto l=>exact ⟨.goto l,a₁,w₁,(show Qx n Q (.goto l) a₁ w₁ from hq),.pass (x := .inLoop c) rfl (fun _ _ => .inl (by simp)) harr⟩
   | ret=>exact ⟨.ret,a₁,w₁,(show Qx n Q .ret a₁ w₁ from hq),.pass (x := .inLoop c) rfl (fun _ _ => .inl (by simp)) harr⟩
   | panic ch=>exact hq.elim
   | outgrown=>exact hq.elim
 obtain ⟨e,a',w',hq,harr⟩:=key m a T w ha h0
 exact ⟨e,a',w',hq,.of_steps (.one step_loop) harr⟩
end
end Go.Proofs.Yteilffoclpgijaa
namespace Go.Proofs.Yteilffoclpgijaa
open Go.RowKit
section
variable {P:Program} {n:Nat} {Q:Exit→Tm→World→Prop} {T:Tm} {w:World} {ops:Array Oper} {rest:List Oper} {o:Oper}
def OW (P:Program) (n:Nat) (Q:Exit→Tm→World→Prop) (o:Oper) (T:Tm) (w:World) (K:Tm→World→Prop):Prop :=
 operOk n o=true → ∀ a,Fr n T a→o.wp P a w (fun a' w' => ∃ T',Fr n T' a'∧K T' w') (Qx n Q)
def YV (P:Program) (S:World→Prop) (T:Tm) (o:Oper) (v:Value):Prop := ∀ w,S w→(execOp (evT T) o).run P w = .ok (.value v) w
def WL (P:Program) (n:Nat) (ops:Array Oper) (Q:Exit→Tm→World→Prop) (l:List Oper) (T:Tm) (w:World):Prop :=
 l.all (operOk n)=true → ∀ a,Fr n T a→wpList P ops (Qx n Q) l a w
theorem q9v {id:Nat} {l:List Oper} (h:WL P n l.toArray Q l T w):W P n (.region id l.toArray false) Q T w:=by
 intro hok a ha
 exact wp_region_lit (h (by simpa [qfh] using hok) a ha)
theorem q7k (h:Q .normal T w):WL P n ops Q [] T w:=fun _ _ ha=>wpList_nil ⟨T,ha,h⟩
theorem qvo (hg : ∀ a,Fr n T a→Region.wanted o (yielded ops a.tmps)=true) (h:OW P n Q o T w (WL P n ops Q rest)):WL P n ops Q (o::rest) T w:=by
 intro hok a ha
 simp only [List.all_cons,Bool.and_eq_true] at hok
 refine wpList_step fun K hK => ?_
 rw [if_pos (hg a ha)]
 exact Oper.wp_mono (fun a' w' ⟨T',hf,hw⟩=>hK a' w' (hw hok.2 a' hf)) (h hok.1 a ha)
theorem OW.of_val {S:World→Prop} {v:Value} {K:Tm→World→Prop} (h:YV P S T o v) (hS:S w) (k:K (qmg T o.dst v) w):OW P n Q o T w K:=by
 intro hok a ha
 unfold Oper.wp
 rw [ha.eval,h w hS]
 exact ⟨_,ha.put o.dst v (operOk.lt hok),k⟩
theorem WL_c {d:Option Nat} {op:Op} {ty:TypeId} {pos:String} {af:Array Edge} (h:OW P n Q ⟨d,op,ty,pos,af,none⟩ T w (WL P n ops Q rest)):WL P n ops Q (⟨d,op,ty,pos,af,none⟩::rest) T w :=
 qvo (fun _ _=>rfl) h
theorem WL_y {d:Nat} {op:Op} {ty:TypeId} {pos:String} {af:Array Edge} {v:Value} (h:YV P (· = w) T ⟨some d,op,ty,pos,af,none⟩ v) (k:WL P n ops Q rest (upd T d v) w):WL P n ops Q (⟨some d,op,ty,pos,af,none⟩::rest) T w :=
 WL_c (OW.of_val h rfl k)
theorem qfw {d:Option Nat} {op:Op} {ty:TypeId} {pos:String} {af:Array Edge} {j:Nat} {b b':Bool} {t:Nat} {a:Act} (hf:Fr n T a) (hj:(ops[j]?).bind (·.dst)=some t) (hT:T t = .bool b) :
  Region.wanted ⟨d,op,ty,pos,af,some (j,b')⟩ (yielded ops a.tmps)=(b==b'):=by
 simp only [Region.wanted,yielded]
 rw [hj]
 have h:=hf.2.2 t
 rw [hT] at h
 rw [Array.getD_eq_getD_getElem?] at h
 cases hx:a.tmps[t]? with
 | none=>rw [hx] at h;simp [undef] at h
 | some v =>
  rw [hx] at h
  simp only [Option.getD_some] at h
  subst h
  simp [hx]
theorem WL_g {d:Option Nat} {op:Op} {ty:TypeId} {pos:String} {af:Array Edge} {j t:Nat} {b:Bool} (hj:(ops[j]?).bind (·.dst)=some t) (hT:T t = .bool b) (h:OW P n Q ⟨d,op,ty,pos,af,some (j,b)⟩ T w (WL P n ops Q rest)) :
  WL P n ops Q (⟨d,op,ty,pos,af,some (j,b)⟩::rest) T w :=
 qvo (fun _ ha=>by rw [qfw ha hj hT];simp) h
theorem q9w {d:Nat} {op:Op} {ty:TypeId} {pos:String} {af:Array Edge} {v:Value} {j t:Nat} {b:Bool} (hj:(ops[j]?).bind (·.dst)=some t) (hT:T t = .bool b) (h:YV P (· = w) T ⟨some d,op,ty,pos,af,some (j,b)⟩ v) (k:WL P n ops Q rest (upd T d v) w) :
  WL P n ops Q (⟨some d,op,ty,pos,af,some (j,b)⟩::rest) T w :=
 WL_g hj hT (OW.of_val h rfl k)
theorem WL_s {d:Option Nat} {op:Op} {ty:TypeId} {pos:String} {af:Array Edge} {j t:Nat} {b b':Bool} (hj:(ops[j]?).bind (·.dst)=some t) (hT:T t = .bool b) (hb:(b==b')=false) (k:WL P n ops Q rest (qmg T d undef) w) :
  WL P n ops Q (⟨d,op,ty,pos,af,some (j,b')⟩::rest) T w:=by
 intro hok a ha
 simp only [List.all_cons,Bool.and_eq_true] at hok
 refine wpList_step fun K hK => ?_
 rw [if_neg (by rw [qfw ha hj hT,hb];simp)]
 exact hK _ _ (k hok.2 _ (ha.put d undef (operOk.lt hok.1)))
end
theorem qyp {P:Program} {f:FuncId} {fn:Func} {c:Code} {args:Array Value} {w:World} {R:Ending→World→Prop} (hf:P.funcs[f]? = some fn) (hb:fn.body=some c) (hn:args.size≤fn.ntmps) (hok:qfh fn.ntmps c=true)
  (h : ∀ T:Tm,(∀ k,T k=(args++Array.replicate (fn.ntmps-args.size) undef).getD k undef)→W P fn.ntmps c (fun e T w=>match e with | .normal | .ret => ∀ tmps:Array Value,(∀ k,tmps.getD k undef=T k) → ∃ v,(results fn tmps).run P w = .ok v w∧R (.returned v) w | _=>False) T w) :
  Calls P f args w R:=by
 refine calls_of_wp hf hb ?_
 refine wp_mono (h _ (fun _=>rfl) hok _ ⟨by simp;omega,rfl,fun _=>rfl⟩) ?_
 intro e a w' hq
 cases e<;>simp only [Qx] at hq<;>first | exact hq.elim | skip
 ·obtain ⟨T,hf,hx⟩:=hq
  obtain ⟨v,h1,h2⟩:=hx _ hf.2.2
  exact ⟨hf.2.1,v,h1,h2⟩
 ·obtain ⟨T,hf,hx⟩:=hq
  exact hx.elim
 ·obtain ⟨T,hf,hx⟩:=hq
  exact hx.elim
 ·obtain ⟨T,hf,hx⟩:=hq
  obtain ⟨v,h1,h2⟩:=hx _ hf.2.2
  exact ⟨hf.2.1,v,h1,h2⟩
end Go.Proofs.Yteilffoclpgijaa
namespace Go.Proofs.Yteilffoclpgijaa
open Go.RowKit
def sl (cs:List Value) (o n:Nat):List Value:=(cs.drop o).take n
def pt (cs:List Value) (o:Nat) (ws:List Value):List Value:=cs.take o++ws++cs.drop (o+ws.length)
theorem qag {cs:List Value} {o n:Nat} (h:o+n≤cs.length):(sl cs o n).length=n:=by simp [sl];omega
theorem qbl {cs:List Value} {o n:Nat} (h:(sl cs o n).length=n) (hn:0<n):o+n≤cs.length:=by simp [sl] at h;omega
theorem qe1 (cs:List Value) (o n j:Nat) (h:j<n):(sl cs o n)[j]? = cs[o+j]? := by simp [sl,h]
theorem qbw (cs:List Value) (o n j:Nat) (h:n≤j):(sl cs o n)[j]? = none:=by simp [sl,List.getElem?_take];omega
theorem qkn {a b:List Value} (h : ∀ j:Nat,a[j]? = b[j]?):a=b:=List.ext_getElem? h
theorem qal (cs:List Value) {o1 n1 o2 n2:Nat} (h:o2+n2≤n1):sl (sl cs o1 n1) o2 n2=sl cs (o1+o2) n2:=by
 refine qkn fun j => ?_
 by_cases hj:j<n2
 ·rw [qe1 _ _ _ _ hj,qe1 _ _ _ _ (by omega),qe1 _ _ _ _ hj,Nat.add_assoc]
 ·rw [qbw _ _ _ _ (by omega),qbw _ _ _ _ (by omega)]
theorem qqm (cs:List Value):sl cs 0 cs.length=cs:=by simp [sl]
theorem qog {p p':List Value} (h:p <+: p') {o n:Nat} (hn:o+n≤p.length):sl p' o n=sl p o n:=by
 obtain ⟨t,rfl⟩:=h
 refine qkn fun j => ?_
 by_cases hj:j<n
 ·rw [qe1 _ _ _ _ hj,qe1 _ _ _ _ hj,List.getElem?_append_left (by omega)]
 ·rw [qbw _ _ _ _ (by omega),qbw _ _ _ _ (by omega)]
theorem qah {cs:List Value} {o:Nat} {ws:List Value} (h:o+ws.length≤cs.length):(pt cs o ws).length=cs.length:=by simp [pt];omega
theorem q42 {cs:List Value} {o:Nat} {ws:List Value} (h:o+ws.length≤cs.length) (j:Nat):(pt cs o ws)[j]? = if o≤j∧j<o+ws.length then ws[j-o]? else cs[j]? := by
 unfold pt
 by_cases h1:j<o
 ·rw [List.append_assoc,List.getElem?_append_left (by simp;omega),if_neg (by omega),List.getElem?_take,if_pos h1]
 ·by_cases h2:j<o+ws.length
  ·rw [if_pos (by omega),List.getElem?_append_left (by simp;omega),List.getElem?_append_right (by simp;omega)]
   congr 1
   simp
   omega
  ·rw [if_neg (by omega),List.getElem?_append_right (by simp;omega),List.getElem?_drop]
   congr 1
   simp
   omega
theorem qqn {cs:List Value} {o:Nat} {ws:List Value} (h:o+ws.length≤cs.length) {n:Nat} (hn:ws.length=n):sl (pt cs o ws) o n=ws:=by
 subst hn
 refine qkn fun j => ?_
 by_cases hj:j<ws.length
 ·rw [qe1 _ _ _ _ hj,q42 h,if_pos (by omega)];congr 1;omega
 ·rw [qbw _ _ _ _ (by omega),List.getElem?_eq_none (by omega)]
theorem qhk {cs:List Value} {o:Nat} {ws:List Value} (h:o+ws.length≤cs.length) {o' n':Nat} (ha:o'+n'≤o∨o+ws.length≤o'):sl (pt cs o ws) o' n'=sl cs o' n':=by
 refine qkn fun j => ?_
 by_cases hj:j<n'
 ·rw [qe1 _ _ _ _ hj,q42 h,if_neg (by omega),qe1 _ _ _ _ hj]
 ·rw [qbw _ _ _ _ (by omega),qbw _ _ _ _ (by omega)]
theorem qxc (cs:List Value) (o n m:Nat):sl cs o n++sl cs (o+n) m=sl cs o (n+m):=by
 simp only [sl]
 rw [List.take_add,List.drop_drop]
abbrev Mm:=Nat→Option (List Value)
def Mm.le (M M':Mm):Prop := ∀ b p,M b=some p → ∃ p',M' b=some p'∧p <+: p'
theorem Mm.le.refl (M:Mm):M.le M:=fun _ p h=>⟨p,h,List.prefix_refl _⟩
theorem Mm.le.trans {A B C:Mm} (h:A.le B) (k:B.le C):A.le C:=fun b p hp =>
 let ⟨p1,h1,e1⟩:=h b p hp
 let ⟨p2,h2,e2⟩:=k b p1 h1
 ⟨p2,h2,e1.trans e2⟩
def Agree (M:Mm) (w:World):Prop := ∀ b p,M b=some p → ∃ cs t fr,w.heap[b]? = some (.cells cs t fr)∧p <+: cs.toList
theorem Agree.lt {M:Mm} {w:World} (h:Agree M w) {b:Nat} {p:List Value} (hb:M b=some p):b<w.heap.size:=by
 obtain ⟨cs,t,fr,hh,_⟩:=h b p hb
 exact (Array.getElem?_eq_some_iff.1 hh).1
class Rep (α : Type) where
 k:Nat
 bytes:Nat
 rep:Mm→List Value → α → Prop
 len : ∀ {M cs d},rep M cs d→cs.length=k
 mono : ∀ {M M':Mm} {cs d},M.le M'→rep M cs d→rep M' cs d
 one : ∀ {M cs d},rep M cs d → ∀ u∈cs,u.oneCell'=true
open Rep (rep)
instance:Rep Int where
 k:=1
 bytes:=8
 rep _ cs x:=cs=[.int .i64 x]
 len h:=by rw [h];rfl
 mono _ h:=h
 one h:=by rw [h];simp [Value.oneCell']
instance:Rep Bool where
 k:=1
 bytes:=1
 rep _ cs x:=cs=[.bool x]
 len h:=by rw [h];rfl
 mono _ h:=h
 one h:=by rw [h];simp [Value.oneCell']
instance:Rep ByteArray where
 k:=1
 bytes:=16
 rep _ cs x:=cs=[.string x]∧x.size≤140737488351232
 len h:=by rw [h.1];rfl
 mono _ h:=h
 one h:=by rw [h.1];simp [Value.oneCell']
structure Byt where
 val:Int
deriving DecidableEq,Inhabited
instance:Rep Byt where
 k:=1
 bytes:=1
 rep _ cs x:=cs=[.int .u8 x.val]
 len h:=by rw [h];rfl
 mono _ h:=h
 one h:=by rw [h];simp [Value.oneCell']
def repL {α : Type} [Rep α] (M:Mm) (v:Value) (l:List α):Prop :=
 ∃ a cap,v = .slice a l.length cap∧l.length≤cap∧(a=none→cap=0)∧l.length*Rep.bytes α ≤ 140737488351232 ∧
  ∀ i x,l[i]? = some x → ∃ b off p,a=some ⟨b,off,none⟩∧M b=some p∧off+i*Rep.k α + Rep.k α ≤ p.length∧rep M (sl p (off+i*Rep.k α) (Rep.k α)) x
theorem repL.mono {α : Type} [Rep α] {M M':Mm} {v:Value} {l:List α} (hm:M.le M') (h:repL M v l):repL M' v l:=by
 obtain ⟨a,cap,rfl,h1,h2,h3,h4⟩:=h
 refine ⟨a,cap,rfl,h1,h2,h3,fun i x hx => ?_⟩
 obtain ⟨b,off,p,ha,hb,hl,hr⟩:=h4 i x hx
 obtain ⟨p',hb',hp⟩:=hm b p hb
 exact ⟨b,off,p',ha,hb',Nat.le_trans hl hp.length_le,by rw [qog hp hl];exact Rep.mono hm hr⟩
instance {α : Type} [Rep α]:Rep (List α) where
 k:=1
 bytes:=24
 rep M cs l := ∃ v,cs=[v]∧repL M v l
 len h:=by obtain ⟨v,rfl,_⟩:=h;rfl
 mono hm h:=by obtain ⟨v,rfl,h⟩:=h;exact ⟨v,rfl,h.mono hm⟩
 one h:=by
  obtain ⟨v,rfl,a,cap,rfl,_⟩:=h
  simp [Value.oneCell']
theorem qk3 {α : Type} [Rep α] (M:Mm):repL M (.slice none 0 0) ([]:List α):=⟨none,0,rfl,Nat.le_refl _,fun _=>rfl,by simp,fun i x h=>by simp at h⟩
theorem q0f {cs:List Value} {k n:Nat} (hl:cs.length=n*k) (hk:0<k) {u:Value} (hu:u∈cs) : ∃ i,i<n∧u∈sl cs (i*k) k:=by
 obtain ⟨j,hj⟩:=List.getElem?_of_mem hu
 have hlt:j<cs.length:=(List.getElem?_eq_some_iff.1 hj).1
 refine ⟨j / k,Nat.div_lt_of_lt_mul (by rw [Nat.mul_comm];omega),?_⟩
 refine List.mem_of_getElem? (i:=j%k) ?_
 rw [qe1 _ _ _ _ (Nat.mod_lt _ hk),← hj]
 congr 1
 rw [Nat.mul_comm]
 exact Nat.div_add_mod j k
instance {α : Type} [Rep α] {n:Nat}:Rep (Vector α n) where
 k:=n*Rep.k α
 bytes:=n*Rep.bytes α
 rep M cs v:=cs.length=n*Rep.k α ∧ (0<Rep.k α ∨ n=0) ∧ ∀ i (h:i<n),rep M (sl cs (i*Rep.k α) (Rep.k α)) v[i]
 len h:=h.1
 mono hm h:=⟨h.1,h.2.1,fun i hi=>Rep.mono hm (h.2.2 i hi)⟩
 one h:=fun u hu=>by
  obtain ⟨h1,h2 | rfl,h3⟩:=h
  ·obtain ⟨i,hi,hm⟩:=q0f h1 h2 hu
   exact Rep.one (h3 i hi) u hm
  ·simp at h1;subst h1;simp at hu
inductive Ent where
 | box (b:Nat) (cs:List Value) (t:TypeId)
 | row (v:Value) (e:TypeId) (k:Nat)
 | stk (v:Value) (e:TypeId) (k:Nat) (xs:List Value)
def Ent.blk:Ent→Option Nat
 | .box b _ _=>some b
 | .row v _ _=>v.ownBlock
 | .stk v _ _ _=>v.ownBlock
def q9x (M:Mm) (w:World) (v:Value) (e:TypeId) (k:Nat):Prop := ∃ n xs,w.ownsRow 0 e k v n xs ∧ ∀ g,v.ownBlock=some g→M g=some xs
def q7l (M:Mm) (w:World) (v:Value) (e:TypeId) (k:Nat) (xs:List Value):Prop:=(∃ n,w.ownsRow 0 e k v n xs) ∧ ∀ g,v.ownBlock=some g→M g=none
def Ent.holds (M:Mm) (w:World):Ent→Prop
 | .box b cs t=>w.heap[b]? = some (.cells cs.toArray t (0,0))∧M b=none
 | .row v e k=>q9x M w v e k
 | .stk v e k xs=>q7l M w v e k xs
theorem Ent.lt {M:Mm} {w:World} {e:Ent} (h:e.holds M w) {b:Nat} (hb:e.blk=some b):b<w.heap.size:=by
 cases e with
 | box b' cs t =>
  cases hb
  exact (Array.getElem?_eq_some_iff.1 h.1).1
 | row v e k =>
  obtain ⟨n,xs,⟨_,h | ⟨g,cap,cur,rfl,_,hh,_⟩⟩,_⟩:=h
  ·obtain ⟨rfl,_⟩:=h;cases hb
  ·cases hb;exact (Array.getElem?_eq_some_iff.1 hh).1
 | stk v e k ys =>
  obtain ⟨⟨n,_,h | ⟨g,cap,cur,rfl,_,hh,_⟩⟩,_⟩:=h
  ·obtain ⟨rfl,_⟩:=h;cases hb
  ·cases hb;exact (Array.getElem?_eq_some_iff.1 hh).1
def noX:Nat→Prop:=fun _=>False
structure St (w0:World) (X:Nat→Prop) (M:Mm) (H:List Ent) (w:World):Prop where
 os:w.os=w0.os
 tape:w.tape=w0.tape
 output:w.output=w0.output
 size:w0.heap.size≤w.heap.size
 frame : ∀ k,k<w0.heap.size → ¬ X k→w.heap[k]? = w0.heap[k]?
 agree:Agree M w
 ents : ∀ e∈H,e.holds M w
 mine : ∀ e∈H,∀ b,e.blk=some b→X b∨w0.heap.size≤b
 apart:H.Pairwise (fun e f => ∀ b,e.blk=some b→f.blk≠some b)
theorem St.start {w:World} {X:Nat→Prop} {M:Mm} (h:Agree M w):St w X M [] w:=⟨rfl,rfl,rfl,Nat.le_refl _,fun _ _ _=>rfl,h,by simp,by simp,.nil⟩
theorem St.drew {w0 w:World} {X:Nat→Prop} {M:Mm} {H:List Ent} (h:St w0 X M H w):St w0 X M H w.drew:=⟨h.os,h.tape,h.output,h.size,h.frame,h.agree,h.ents,h.mine,h.apart⟩
structure Kept (w w':World):Prop where
 os:w'.os=w.os
 tape:w'.tape=w.tape
 output:w'.output=w.output
 size:w.heap.size≤w'.heap.size
 block : ∀ k,k<w.heap.size→w'.heap[k]? = w.heap[k]?
theorem Kept.of_below {w w':World} (h:Below w.heap.size w w'):Kept w w':=⟨h.os,h.tape,h.output,h.size,h.block⟩
theorem Kept.below {w w':World} (h:Kept w w'):Below w.heap.size w w':=⟨h.os,h.tape,h.output,h.size,h.block⟩
theorem Kept.refl (w:World):Kept w w:=⟨rfl,rfl,rfl,Nat.le_refl _,fun _ _=>rfl⟩
theorem Kept.trans {a b c:World} (h:Kept a b) (k:Kept b c):Kept a c :=
 ⟨k.os.trans h.os,k.tape.trans h.tape,k.output.trans h.output,Nat.le_trans h.size k.size,fun i hi=>(k.block i (Nat.lt_of_lt_of_le hi h.size)).trans (h.block i hi)⟩
theorem St.kept {w0 w:World} {M:Mm} {H:List Ent} (h:St w0 noX M H w):Kept w0 w:=⟨h.os,h.tape,h.output,h.size,fun k hk=>h.frame k hk (fun hx=>hx.elim)⟩
def Mm.new (M M':Mm) (n:Nat):Prop := ∀ b,b<n→M' b=M b
def Mm.ext (n:Nat) (X:Nat→Prop) (M M':Mm):Prop:=M.le M' ∧ ∀ b,b<n → ¬ X b→M' b=M b
theorem Mm.ext.refl (n:Nat) (X:Nat→Prop) (M:Mm):Mm.ext n X M M:=⟨Mm.le.refl M,fun _ _ _=>rfl⟩
theorem Mm.ext.trans {n:Nat} {X:Nat→Prop} {A B C:Mm} (h:Mm.ext n X A B) (k:Mm.ext n X B C):Mm.ext n X A C:=⟨h.1.trans k.1,fun b hb hx=>(k.2 b hb hx).trans (h.2 b hb hx)⟩
theorem Mm.ext.new {n:Nat} {M M':Mm} (h:Mm.ext n noX M M'):M.new M' n:=fun b hb=>h.2 b hb (fun hx=>hx.elim)
theorem qh8 {w w':World} {base:Nat} {e:TypeId} {k:Nat} {v:Value} {n:Nat} {xs:List Value} (h:w.ownsRow base e k v n xs) (hb : ∀ g,v.ownBlock=some g→w'.heap[g]? = w.heap[g]?):w'.ownsRow base e k v n xs:=by
 obtain ⟨h1,h2 | ⟨g,cap,cur,rfl,hg,hh,r⟩⟩:=h
 ·exact ⟨h1,.inl h2⟩
 ·exact ⟨h1,.inr ⟨g,cap,cur,rfl,hg,by rw [hb g rfl];exact hh,r⟩⟩
theorem Ent.kept {M M':Mm} {w w':World} {e:Ent} (h:e.holds M w) (hw : ∀ b,e.blk=some b→w'.heap[b]? = w.heap[b]? ∧ M' b=M b):e.holds M' w':=by
 cases e with
 | box b cs t=>exact ⟨(hw b rfl).1.trans h.1,(hw b rfl).2.trans h.2⟩
 | row v e k =>
  obtain ⟨n,xs,h1,h2⟩:=h
  exact ⟨n,xs,qh8 h1 fun g hg=>(hw g hg).1,fun g hg=>(hw g hg).2.trans (h2 g hg)⟩
 | stk v e k ys =>
  obtain ⟨⟨n,h1⟩,h2⟩:=h
  exact ⟨⟨n,qh8 h1 fun g hg=>(hw g hg).1⟩,fun g hg=>(hw g hg).2.trans (h2 g hg)⟩
section
variable {w0 w w':World} {X:Nat→Prop} {M M':Mm} {H:List Ent}
theorem St.call (h:St w0 X M H w) (hk:Kept w w') (hn:M.new M' w.heap.size) (ha:Agree M' w'):St w0 X M' H w':=by
 refine ⟨hk.os.trans h.os,hk.tape.trans h.tape,hk.output.trans h.output,Nat.le_trans h.size hk.size,fun k hlt hno=>(hk.block k (Nat.lt_of_lt_of_le hlt h.size)).trans (h.frame k hlt hno),ha,fun e he => ?_,h.mine,h.apart⟩
 exact Ent.kept (h.ents e he) fun b hb=>have:=Ent.lt (h.ents e he) hb;⟨hk.block b this,hn b this⟩
theorem Agree.kept (h:Agree M w) (hk:Kept w w'):Agree M w':=fun b p hb=>by
 obtain ⟨cs,t,fr,h1,h2⟩:=h b p hb
 exact ⟨cs,t,fr,(hk.block b (h.lt hb)).trans h1,h2⟩
theorem St.call0 (h:St w0 X M H w) (hk:Kept w w'):St w0 X M H w':=h.call hk (fun _ _=>rfl) (h.agree.kept hk)
theorem Mm.new.le (h:M.new M' w.heap.size) (ha:Agree M w):M.le M':=fun b p hb=>⟨p,by rw [h b (ha.lt hb)];exact hb,List.prefix_refl _⟩
theorem St.alloc (h:St w0 X M H w) (cs:List Value) (t:TypeId):St w0 X M (.box w.heap.size cs t::H) (w.alloc (.cells cs.toArray t)):=by
 have hsz:(w.alloc (.cells cs.toArray t)).heap.size=w.heap.size+1:=by simp
 have hold : ∀ k,k<w.heap.size→(w.alloc (.cells cs.toArray t)).heap[k]? = w.heap[k]? := fun k hk=>Below.heap_alloc _ _ _ hk
 refine ⟨h.os,h.tape,h.output,by have:=h.size;omega,fun k hk hno=>(hold k (Nat.lt_of_lt_of_le hk h.size)).trans (h.frame k hk hno),fun b p hb => ?_,fun e he => ?_,fun e he b hb => ?_,?_⟩
 ·obtain ⟨c,t',fr,h1,h2⟩:=h.agree b p hb
  exact ⟨c,t',fr,(hold b (h.agree.lt hb)).trans h1,h2⟩
 ·rcases List.mem_cons.1 he with rfl | he
  ·refine ⟨?_,?_⟩
   ·show (w.heap.push _)[w.heap.size]? = _
    simp
   ·cases hm:M w.heap.size with
    | none=>rfl
    | some p=>have:=h.agree.lt hm;omega
  ·exact Ent.kept (h.ents e he) fun b hb=>⟨hold b (Ent.lt (h.ents e he) hb),rfl⟩
 ·rcases List.mem_cons.1 he with rfl | he
  ·cases hb;exact .inr h.size
  ·exact h.mine e he b hb
 ·refine .cons (fun e he b hb hb' => ?_) h.apart
  cases hb
  have:=Ent.lt (h.ents e he) hb'
  omega
def Mm.put (M:Mm) (b:Nat) (p:List Value):Mm:=fun k=>if k=b then some p else M k
theorem Mm.put_same (M:Mm) (b:Nat) (p:List Value):M.put b p b=some p:=by simp [Mm.put]
theorem Mm.put_other (M:Mm) {b k:Nat} (p:List Value) (h:k≠b):M.put b p k=M k:=by simp [Mm.put,h]
theorem St.none_at (h:St w0 X M H w) {b:Nat} (hb:w.heap.size≤b):M b=none:=by
 cases hm:M b with
 | none=>rfl
 | some p=>have:=h.agree.lt hm;omega
theorem Mm.put_le {b:Nat} (p:List Value) (h:M b=none):M.le (M.put b p):=fun k q hk=>by
 refine ⟨q,?_,List.prefix_refl _⟩
 rw [Mm.put_other]
 ·exact hk
 ·intro e;subst e;rw [h] at hk;cases hk
theorem St.extM (h:St w0 X M H w) (p:List Value):Mm.ext w0.heap.size X M (M.put w.heap.size p) :=
 ⟨Mm.put_le p (h.none_at (Nat.le_refl _)),fun b hb _=>Mm.put_other _ _ (by have:=h.size;omega)⟩
theorem St.ext (h:St w0 X M H w) (hn:M.new M' w.heap.size):Mm.ext w0.heap.size X M M':=⟨hn.le h.agree,fun b hb _=>hn b (Nat.lt_of_lt_of_le hb h.size)⟩
theorem St.allocM (h:St w0 X M H w) (cs:List Value) (t:TypeId):St w0 X (M.put w.heap.size cs) H (w.alloc (.cells cs.toArray t)):=by
 have hsz:(w.alloc (.cells cs.toArray t)).heap.size=w.heap.size+1:=by simp
 have hold : ∀ k,k<w.heap.size→(w.alloc (.cells cs.toArray t)).heap[k]? = w.heap[k]? := fun k hk=>Below.heap_alloc _ _ _ hk
 refine ⟨h.os,h.tape,h.output,by have:=h.size;omega,fun k hk hno=>(hold k (Nat.lt_of_lt_of_le hk h.size)).trans (h.frame k hk hno),fun b p hb => ?_,fun e he => ?_,h.mine,h.apart⟩
 ·by_cases e:b=w.heap.size
  ·subst e
   rw [Mm.put_same] at hb
   cases hb
   refine ⟨cs.toArray,t,(0,0),?_,by simp⟩
   show (w.heap.push _)[w.heap.size]? = _
   simp
  ·rw [Mm.put_other _ _ e] at hb
   obtain ⟨c,t',fr,h1,h2⟩:=h.agree b p hb
   exact ⟨c,t',fr,(hold b (h.agree.lt hb)).trans h1,h2⟩
 ·exact Ent.kept (h.ents e he) fun b hb=>by
   have:=Ent.lt (h.ents e he) hb
   exact ⟨hold b this,Mm.put_other _ _ (by omega)⟩
theorem St.drop {e:Ent} (h:St w0 X M (e::H) w):St w0 X M H w :=
 ⟨h.os,h.tape,h.output,h.size,h.frame,h.agree,fun f hf=>h.ents f (List.mem_cons_of_mem _ hf),fun f hf=>h.mine f (List.mem_cons_of_mem _ hf),(List.pairwise_cons.1 h.apart).2⟩
theorem St.perm {H':List Ent} (h:St w0 X M H w) (hp:H.Perm H'):St w0 X M H' w:=by
 refine ⟨h.os,h.tape,h.output,h.size,h.frame,h.agree,fun f hf=>h.ents f (hp.mem_iff.2 hf),fun f hf=>h.mine f (hp.mem_iff.2 hf),?_⟩
 exact hp.pairwise h.apart (fun {a b} hab c hc hc'=>hab c hc' hc)
theorem St.write {b:Nat} {cs cs':List Value} {t:TypeId} (h:St w0 X M (.box b cs t::H) w) (hos:w'.os=w.os) (htp:w'.tape=w.tape) (hout:w'.output=w.output)
  (hb:w'.heap[b]? = some (.cells cs'.toArray t (0,0))) (ho : ∀ k,k≠b→w'.heap[k]? = w.heap[k]?) (hsz:w'.heap.size=w.heap.size):St w0 X M (.box b cs' t::H) w':=by
 have hM:M b=none:=(h.ents _ List.mem_cons_self).2
 have hmine:=h.mine _ List.mem_cons_self b rfl
 refine ⟨hos.trans h.os,htp.trans h.tape,hout.trans h.output,by rw [hsz];exact h.size,fun k hk hno => ?_,fun k p hk => ?_,fun e he => ?_,fun e he c hc => ?_,?_⟩
 ·rw [ho k (fun e=>by subst e;rcases hmine with hx | hx;exact hno hx;omega)]
  exact h.frame k hk hno
 ·have hkb:k≠b:=fun e=>by subst e;rw [hM] at hk;cases hk
  rw [ho k hkb]
  exact h.agree k p hk
 ·rcases List.mem_cons.1 he with rfl | he'
  ·exact ⟨hb,hM⟩
  ·refine Ent.kept (h.ents e (List.mem_cons_of_mem _ he')) fun c hc=>⟨ho c fun heq => ?_,rfl⟩
   subst heq
   exact (List.pairwise_cons.1 h.apart).1 e he' c rfl hc
 ·rcases List.mem_cons.1 he with rfl | he'
  ·cases hc;exact hmine
  ·exact h.mine e (List.mem_cons_of_mem _ he') c hc
 ·refine .cons (fun e he c hc => ?_) (List.pairwise_cons.1 h.apart).2
  cases hc
  exact (List.pairwise_cons.1 h.apart).1 e he b rfl
end
end Go.Proofs.Yteilffoclpgijaa
namespace Go.Proofs.Yteilffoclpgijaa
open Go.RowKit
open Rep (rep)
section
variable {P:Program} {S:World→Prop} {T:Tm} {dst:Option Tmp} {ty:TypeId} {pos:String} {af:Array Edge} {g:Option (Nat × Bool)}
theorem q43 {x:Operand} (v:Value) (h:evT T x=v):YV P S T ⟨dst,.move x,ty,pos,af,g⟩ v:=by intro w _;simp [execOp,h]
theorem qxd {x:Operand} (v:Value) (h:evT T x=v):YV P S T ⟨dst,.assign x,ty,pos,af,g⟩ v:=by intro w _;simp [execOp,h]
theorem qxe {c x y:Operand} (v:Value) (hc:evT T c = .bool true) (h:evT T x=v):YV P S T ⟨dst,.pick c x y,ty,pos,af,g⟩ v:=by intro w _;simp [execOp,h,hc,asBool]
theorem qxf {c x y:Operand} (v:Value) (hc:evT T c = .bool false) (h:evT T y=v):YV P S T ⟨dst,.pick c x y,ty,pos,af,g⟩ v:=by intro w _;simp [execOp,h,hc,asBool]
theorem q9y {x:Operand} {b:Bool} {t:TypeId} (h:evT T x = .bool b):YV P S T ⟨dst,.unOp .not t x,ty,pos,af,g⟩ (.bool (!b)):=by intro w _;simp [execOp,h,Op.unary]
theorem qat (op:BinOp) (t:TypeId) (x y:Operand) (k k':IntKind) (a b:Int) (w:World):(eqGuard op t x y (.int k a) (.int k' b)).run P w = .ok () w:=by
 unfold eqGuard
 cases op<;>simp
theorem qnp (op:BinOp) (t:TypeId) (x y:Operand) (a b:Bool) (w:World):(eqGuard op t x y (.bool a) (.bool b)).run P w = .ok () w:=by
 unfold eqGuard
 cases op<;>simp
theorem qfx (op:BinOp) (t:TypeId) (x y:Operand) (a b:ByteArray) (w:World):(eqGuard op t x y (.string a) (.string b)).run P w = .ok () w:=by
 unfold eqGuard
 cases op<;>simp
section
variable {x y:Operand} {k:IntKind} {a b:Int} {t u:TypeId}
theorem q9z (hx:evT T x = .int k a) (hy:evT T y = .int k b):YV P S T ⟨dst,.binOp .add t x y u,ty,pos,af,g⟩ (.int k (k.wrap (a+b))):=by
 intro w _;simp [execOp,hx,hy,binOp,Op.intArith,qat]
theorem q90 (hx:evT T x = .int k a) (hy:evT T y = .int k b):YV P S T ⟨dst,.binOp .sub t x y u,ty,pos,af,g⟩ (.int k (k.wrap (a-b))):=by
 intro w _;simp [execOp,hx,hy,binOp,Op.intArith,qat]
theorem q5l (hx:evT T x = .int k a) (hy:evT T y = .int k b):YV P S T ⟨dst,.binOp .mul t x y u,ty,pos,af,g⟩ (.int k (k.wrap (a*b))):=by
 intro w _;simp [execOp,hx,hy,binOp,Op.intArith,qat]
theorem q91 (hx:evT T x = .int k a) (hy:evT T y = .int k b) (h0:b≠0):YV P S T ⟨dst,.binOp .quo t x y u,ty,pos,af,g⟩ (.int k (k.wrap (a.tdiv b))):=by
 intro w _;simp [execOp,hx,hy,binOp,Op.intDiv,qat,h0]
theorem q7m {k':IntKind} (hx:evT T x = .int k a) (hy:evT T y = .int k' b) (h0:0≤b):YV P S T ⟨dst,.binOp .shl t x y u,ty,pos,af,g⟩ (.int k (k.wrap (a*2 ^ (min b.toNat k.bits)))):=by
 intro w _
 have h1 : ¬ b<0:=by omega
 simp [execOp,hx,hy,binOp,Op.shift,qat,h1]
theorem q7n {k':IntKind} (hx:evT T x = .int k a) (hy:evT T y = .int k' b) (h0:0≤b):YV P S T ⟨dst,.binOp .shr t x y u,ty,pos,af,g⟩ (.int k (a.fdiv (2 ^ (min b.toNat k.bits)))):=by
 intro w _
 have h1 : ¬ b<0:=by omega
 simp [execOp,hx,hy,binOp,Op.shift,qat,h1]
def orI (k:IntKind) (a b:Int):Int:=k.wrap ((BitVec.ofInt k.bits a ||| BitVec.ofInt k.bits b).toNat:Int)
theorem Y_or (hx:evT T x = .int k a) (hy:evT T y = .int k b):YV P S T ⟨dst,.binOp .or t x y u,ty,pos,af,g⟩ (.int k (orI k a b)):=by
 intro w _;simp [execOp,hx,hy,binOp,Op.intBits,qat,orI]
theorem q92 (hx:evT T x = .int k a) (hy:evT T y = .int k b):YV P S T ⟨dst,.binOp .lss t x y u,ty,pos,af,g⟩ (.bool (decide (a<b))):=by
 intro w _;simp [execOp,hx,hy,binOp,Op.intCmp,qat]
theorem q93 (hx:evT T x = .int k a) (hy:evT T y = .int k b):YV P S T ⟨dst,.binOp .leq t x y u,ty,pos,af,g⟩ (.bool (decide (a≤b))):=by
 intro w _;simp [execOp,hx,hy,binOp,Op.intCmp,qat]
theorem q94 (hx:evT T x = .int k a) (hy:evT T y = .int k b):YV P S T ⟨dst,.binOp .gtr t x y u,ty,pos,af,g⟩ (.bool (decide (a>b))):=by
 intro w _;simp [execOp,hx,hy,binOp,Op.intCmp,qat]
theorem q95 (hx:evT T x = .int k a) (hy:evT T y = .int k b):YV P S T ⟨dst,.binOp .geq t x y u,ty,pos,af,g⟩ (.bool (decide (a≥b))):=by
 intro w _;simp [execOp,hx,hy,binOp,Op.intCmp,qat]
theorem q96 (hx:evT T x = .int k a) (hy:evT T y = .int k b):YV P S T ⟨dst,.binOp .eql t x y u,ty,pos,af,g⟩ (.bool (a==b)):=by
 intro w _;simp [execOp,hx,hy,binOp,Op.intCmp,qat]
theorem q97 (hx:evT T x = .int k a) (hy:evT T y = .int k b):YV P S T ⟨dst,.binOp .neq t x y u,ty,pos,af,g⟩ (.bool (a != b)):=by
 intro w _;simp [execOp,hx,hy,binOp,Op.intCmp,qat]
end
section
variable {x y:Operand} {a b:ByteArray} {t u:TypeId}
theorem q7o (hx:evT T x = .string a) (hy:evT T y = .string b) (h:a.size+b.size≤140737488351232):YV P S T ⟨dst,.binOp .add t x y u,ty,pos,af,g⟩ (.string (a++b)):=by
 intro w _
 have h2:IntKind.i64.max=9223372036854775807:=by decide
 have h1 : ¬ ((a.size+b.size:Nat):Int)>IntKind.i64.max:=by rw [h2];omega
 simp only [execOp,hx,hy,binOp,Op.stringOp,Sem.run_bind,qfx,if_neg h1]
 rfl
theorem q98 (hx:evT T x = .string a) (hy:evT T y = .string b):YV P S T ⟨dst,.binOp .eql t x y u,ty,pos,af,g⟩ (.bool (a.toList==b.toList)):=by
 intro w _;simp [execOp,hx,hy,binOp,Op.stringOp,qfx]
theorem q99 (hx:evT T x = .string a) (hy:evT T y = .string b):YV P S T ⟨dst,.binOp .neq t x y u,ty,pos,af,g⟩ (.bool (!(a.toList==b.toList))):=by
 intro w _;simp [execOp,hx,hy,binOp,Op.stringOp,qfx]
end
section
variable {x y:Operand} {a b:Bool} {t u:TypeId}
theorem q5m (hx:evT T x = .bool a) (hy:evT T y = .bool b) (ht:P.underlying t=some .bool):YV P S T ⟨dst,.binOp .neq t x y u,ty,pos,af,g⟩ (.bool (!(a==b))):=by
 intro w _;simp [execOp,hx,hy,binOp,Sem.run_bind,qnp,run_equal_bool w t a b ht]
end
theorem q7p {s d:TypeId} {x:Operand} {k k':IntKind} {a:Int} (hs : ∃ t,P.underlying s=some t) (hd:P.underlying d=some (.int k)) (hx:evT T x = .int k' a):YV P S T ⟨dst,.convert s d x,ty,pos,af,g⟩ (.int k (k.wrap a)):=by
 intro w _
 obtain ⟨t,hs⟩:=hs
 cases t<;>simp [execOp,hx,convert,Sem.run_bind,run_underlying hs w,run_underlying hd w,Conv.intToInt]
theorem zaa {x:Operand} {a:Addr} (hx:evT T x = .pointer (some a)):YV P S T ⟨dst,.nilCheck x,ty,pos,af,g⟩ (.pointer (some a)):=by
 intro w _;simp [execOp,hx]
theorem q0g {x:Operand} {i:Nat} {vs:Array Value} {v:Value} (hx:evT T x = .tuple vs) (hv:vs[i]? = some v):YV P S T ⟨dst,.extract x i,ty,pos,af,g⟩ v:=by
 intro w _;simp [execOp,hx,Instr.extract,hv]
theorem q7q {x:Operand} {t e:TypeId} {a:Option Addr} {n c:Nat} (ht:P.underlying t=some (.slice e)) (hx:evT T x = .slice a n c):YV P S T ⟨dst,.call ⟨.builtin .len,#[x],#[t]⟩,ty,pos,af,g⟩ (.int .i64 n):=by
 intro w _
 simp [execOp,resolve,invoke,builtin,hx,Builtin.len_,Sem.run_bind,run_underlying ht w,goInt]
theorem q7r {x:Operand} {t:TypeId} {s:ByteArray} (ht:P.underlying t=some .string) (hx:evT T x = .string s):YV P S T ⟨dst,.call ⟨.builtin .len,#[x],#[t]⟩,ty,pos,af,g⟩ (.int .i64 s.size):=by
 intro w _
 simp [execOp,resolve,invoke,builtin,hx,Builtin.len_,Sem.run_bind,run_underlying ht w,goInt]
theorem q3o {x y:Operand} {t t':TypeId} {k k':IntKind} {a b:Int} (hx:evT T x = .int k a) (hy:evT T y = .int k' b):YV P S T ⟨dst,.call ⟨.builtin .min,#[x,y],#[t,t']⟩,ty,pos,af,g⟩ (.int k (min a b)):=by
 intro w _
 have:(if b<a then b else a)=min a b:=by omega
 simp [execOp,resolve,invoke,builtin,hx,hy,Builtin.min_,Builtin.min2,List.foldlM,this]
theorem zab {x y:Operand} {t t':TypeId} {k k':IntKind} {a b:Int} (hx:evT T x = .int k a) (hy:evT T y = .int k' b):YV P S T ⟨dst,.call ⟨.builtin .max,#[x,y],#[t,t']⟩,ty,pos,af,g⟩ (.int k (max a b)):=by
 intro w _
 have:(if a<b then b else a)=max a b:=by omega
 simp [execOp,resolve,invoke,builtin,hx,hy,Builtin.max_,Builtin.max2,List.foldlM,this]
end
end Go.Proofs.Yteilffoclpgijaa
namespace Go.Proofs.Yteilffoclpgijaa
open Go.RowKit
open Rep (rep)
def FA (P:Program) (s:TypeId) (f o:Nat):Prop := ∃ fields fd k,P.underlying s=some (.struct fields)∧fields[f]? = some fd∧(P.info? fd.type).map (·.size)=some (k+1)∧fd.offset=o
def IA (P:Program) (t:TypeId) (n k:Nat):Prop := ∃ e,P.underlying t=some (.array n e)∧(P.info? e).map (·.size)=some k
def IL (P:Program) (t:TypeId) (k:Nat):Prop := ∃ e,P.underlying t=some (.slice e)∧(P.info? e).map (·.size)=some k
def TS (P:Program) (t:TypeId):Prop := ∃ d,P.underlying t=some d∧d.isRow=false
def TA (P:Program) (t:TypeId) (n:Nat):Prop := ∃ d,P.underlying t=some d∧d.isRow=true∧(P.info? t).map (·.size)=some n
def BV (S:World→Prop) (b:Nat) (cs:List Value):Prop := ∀ w,S w → ∃ arr t fr,w.heap[b]? = some (.cells arr t fr)∧cs <+: arr.toList
theorem St.bvM {w0 w:World} {X:Nat→Prop} {M:Mm} {H:List Ent} (h:St w0 X M H w) {b:Nat} {p:List Value} (hb:M b=some p):BV (· = w) b p:=fun _ e=>e ▸ h.agree b p hb
theorem St.bvB {w0 w:World} {X:Nat→Prop} {M:Mm} {H:List Ent} (h:St w0 X M H w) (j:Nat) {b:Nat} {cs:List Value} {t:TypeId} (hj:H[j]? = some (.box b cs t)):BV (· = w) b cs:=fun _ e=>by
 subst e
 exact ⟨cs.toArray,t,(0,0),(h.ents _ (List.mem_of_getElem? hj)).1,by simp⟩
theorem qax {P:Program} {t:TypeId} {n:Nat} (h:(P.info? t).map (·.size)=some n) (w:World):(sizeOf t).run P w = .ok n w:=by
 cases hi:P.info? t with
 | none=>rw [hi] at h;cases h
 | some i =>
  rw [hi] at h
  simp only [Option.map_some,Option.some.injEq] at h
  subst h
  simp [sizeOf,typeInfo,hi,Sem.run_bind]
section
variable {P:Program} {S:World→Prop} {T:Tm} {dst:Option Tmp} {ty:TypeId} {pos:String} {af:Array Edge} {g:Option (Nat × Bool)}
theorem Y_fa {s:TypeId} {f o b off:Nat} {x:Operand} (hf:FA P s f o) (hx:evT T x = .pointer (some ⟨b,off,none⟩)):YV P S T ⟨dst,.fieldAddr s x f,ty,pos,af,g⟩ (.pointer (some ⟨b,off+o,none⟩)):=by
 intro w _
 obtain ⟨fields,fd,k,h1,h2,h3,rfl⟩:=hf
 simp [execOp,hx,Instr.fieldAt,Sem.run_bind,run_underlying h1 w,h2,Instr.sureAddr,fieldPlace,qax h3,Addr.add_mid]
theorem zac {t:TypeId} {n k b off:Nat} {x y:Operand} {kk:IntKind} {j:Int} (ht:IA P t n k) (hx:evT T x = .pointer (some ⟨b,off,none⟩)) (hy:evT T y = .int kk j) (h0:0≤j) (h1:j<n) :
  YV P S T ⟨dst,.indexAddr t x y,ty,pos,af,g⟩ (.pointer (some ⟨b,off+j.toNat*k,none⟩)):=by
 intro w _
 obtain ⟨e,h2,h3⟩:=ht
 simp [execOp,hx,hy,Instr.indexAt,asIntOf,Sem.run_bind,run_underlying h2 w,Instr.sureAddr,h0,h1,qax h3,Addr.add_mid]
theorem zad {t:TypeId} {k b off len cap:Nat} {x y:Operand} {kk:IntKind} {j:Int} {v:Value} (ht:IL P t k) (hx:evT T x=v) (hv:v = .slice (some ⟨b,off,none⟩) len cap) (hy:evT T y = .int kk j) (h0:0≤j) (h1:j<len) :
  YV P S T ⟨dst,.indexAddr t x y,ty,pos,af,g⟩ (.pointer (some ⟨b,off+j.toNat*k,none⟩)):=by
 intro w _
 subst hv
 obtain ⟨e,h2,h3⟩:=ht
 simp [execOp,hx,hy,Instr.indexAt,asIntOf,Sem.run_bind,run_underlying h2 w,h0,h1,qax h3,Addr.add_mid]
theorem qm3 {cs:List Value} {o:Nat} {v:Value} (h:sl cs o 1=[v]):cs[o]? = some v:=by
 have:=qe1 cs o 1 0 (by omega)
 rw [h] at this
 simpa using this.symm
theorem zae {t:TypeId} {b off:Nat} {x:Operand} {cs:List Value} (v:Value) (ht:TS P t) (hx:evT T x = .pointer (some ⟨b,off,none⟩)) (hb:BV S b cs) (hc:sl cs off 1=[v]):YV P S T ⟨dst,.load t x,ty,pos,af,g⟩ v:=by
 intro w hS
 obtain ⟨d,h1,h2⟩:=ht
 obtain ⟨arr,t',fr,h3,h4⟩:=hb w hS
 have hcell:w.cell? ⟨b,off,none⟩=some v:=by
  have:=qm3 hc
  obtain ⟨r,hr⟩:=h4
  simp only [World.cell?,h3]
  rw [← Array.getElem?_toList,← hr,List.getElem?_append_left (List.getElem?_eq_some_iff.1 this).1]
  simpa using this
 have hagg:(isAgg t).run P w = .ok false w:=by
  unfold isAgg
  rw [Sem.run_bind,run_underlying h1 w]
  cases d<;>simp_all [TypeDesc.isRow]
 simp [execOp,hx,Instr.loadAt,Instr.sureAddr,loadVar,Sem.run_bind,hagg,load,Sem.run,hcell]
theorem qqo {w:World} {b off n:Nat} {cs:List Value} {arr:Array Value} {t:TypeId} {fr:Nat × Nat} (h3:w.heap[b]? = some (.cells arr t fr)) (h4:cs <+: arr.toList):w.rangeAt b off (sl cs off n):=by
 intro j v hj
 have hjn:j<n:=by
  rcases Nat.lt_or_ge j n with h | h
  ·exact h
  ·rw [qbw _ _ _ _ h] at hj;cases hj
 rw [qe1 _ _ _ _ hjn] at hj
 obtain ⟨r,hr⟩:=h4
 simp only [World.cell?,h3]
 rw [← Array.getElem?_toList,← hr,List.getElem?_append_left (List.getElem?_eq_some_iff.1 hj).1]
 simpa using hj
theorem zaf {t:TypeId} {b off n:Nat} {x:Operand} {cs:List Value} (ht:TA P t n) (hx:evT T x = .pointer (some ⟨b,off,none⟩)) (hb:BV S b cs) (hl:(sl cs off n).length=n):YV P S T ⟨dst,.load t x,ty,pos,af,g⟩ (.agg (sl cs off n).toArray):=by
 intro w hS
 obtain ⟨d,h1,h2,h5⟩:=ht
 obtain ⟨arr,t',fr,h3,h4⟩:=hb w hS
 have:=run_loadAt_mid (P:=P) w b off t (sl cs off n) d (qqo h3 h4) h1 h2 (by rw [hl];exact h5)
 simp [execOp,hx,this]
theorem qfr {e:TypeId} (he:TS P e) (cs:Array Value) (k:Nat) (v:Value) (hv:cs[k]? = some v) (w:World):(part e cs k).run P w = .ok v w:=by
 obtain ⟨d,h1,h2⟩:=he
 have hagg:(isAgg e).run P w = .ok false w:=by
  unfold isAgg
  rw [Sem.run_bind,run_underlying h1 w]
  cases d<;>simp_all [TypeDesc.isRow]
 simp [part,Sem.run_bind,hagg,hv]
theorem q0h {e:TypeId} {n:Nat} (he:TA P e n) (cs:List Value) (k:Nat) (w:World):(part e cs.toArray k).run P w = .ok (.agg (sl cs k n).toArray) w:=by
 obtain ⟨d,h1,h2,h3⟩:=he
 have hagg:(isAgg e).run P w = .ok true w:=by
  unfold isAgg
  rw [Sem.run_bind,run_underlying h1 w]
  cases d<;>simp_all [TypeDesc.isRow]
 simp [part,Sem.run_bind,hagg,qax h3,sl]
def IV1 (P:Program) (t:TypeId) (n:Nat):Prop := ∃ e,P.underlying t=some (.array n e)∧(P.info? e).map (·.size)=some 1∧TS P e
def IVn (P:Program) (t:TypeId) (n k:Nat):Prop := ∃ e,P.underlying t=some (.array n e)∧(P.info? e).map (·.size)=some k∧TA P e k
theorem q7s {t:TypeId} {n:Nat} {x y:Operand} {kk:IntKind} {j:Int} {cs:List Value} (v:Value) (ht:IV1 P t n) (hx:evT T x = .agg cs.toArray) (hy:evT T y = .int kk j) (h0:0≤j) (h1:j<n) (hc:sl cs (j.toNat*1) 1=[v]) :
  YV P S T ⟨dst,.index t x y,ty,pos,af,g⟩ v:=by
 intro w _
 obtain ⟨e,h2,h3,h4⟩:=ht
 have hc':=qm3 hc
 have hp:=qfr h4 cs.toArray (j.toNat*1) v (by simpa using hc') w
 simp only [Nat.mul_one] at hp
 simp [execOp,hx,hy,Instr.index,asIntOf,Sem.run_bind,run_underlying h2 w,h0,h1,qax h3,hp]
theorem q0i {t:TypeId} {n k:Nat} {x y:Operand} {kk:IntKind} {j:Int} {cs:List Value} (ht:IVn P t n k) (hx:evT T x = .agg cs.toArray) (hy:evT T y = .int kk j) (h0:0≤j) (h1:j<n) :
  YV P S T ⟨dst,.index t x y,ty,pos,af,g⟩ (.agg (sl cs (j.toNat*k) k).toArray):=by
 intro w _
 obtain ⟨e,h2,h3,h4⟩:=ht
 simp [execOp,hx,hy,Instr.index,asIntOf,Sem.run_bind,run_underlying h2 w,h0,h1,qax h3,q0h h4]
def FV1 (P:Program) (s:TypeId) (f o:Nat):Prop := ∃ fields fd,P.underlying s=some (.struct fields)∧fields[f]? = some fd∧TS P fd.type∧fd.offset=o
theorem q7t {s:TypeId} {f o:Nat} {x:Operand} {cs:List Value} (v:Value) (hf:FV1 P s f o) (hx:evT T x = .agg cs.toArray) (hc:sl cs o 1=[v]):YV P S T ⟨dst,.field s x f,ty,pos,af,g⟩ v:=by
 intro w _
 obtain ⟨fields,fd,h1,h2,h3,rfl⟩:=hf
 have hp:=qfr h3 cs.toArray fd.offset v (by simpa using qm3 hc) w
 simp [execOp,hx,Instr.field,asAgg,Sem.run_bind,run_underlying h1 w,h2,hp]
def q0j (s:ByteArray) (j:Int):Option Int:=if 0≤j then (s[j.toNat]?).map (fun b=>(b.toNat:Int)) else none
theorem q5n {t:TypeId} {x y:Operand} {kk:IntKind} {j c:Int} {s:ByteArray} (ht:P.underlying t=some .string) (hx:evT T x = .string s) (hy:evT T y = .int kk j) (hj:q0j s j=some c):YV P S T ⟨dst,.index t x y,ty,pos,af,g⟩ (.int .u8 c):=by
 intro w _
 unfold q0j at hj
 split at hj
 ·rename_i h0
  cases hb:s[j.toNat]? with
  | none=>rw [hb] at hj;cases hj
  | some b =>
   rw [hb] at hj
   simp only [Option.map_some,Option.some.injEq] at hj
   subst hj
   simp [execOp,hx,hy,Instr.index,asIntOf,Sem.run_bind,run_underlying ht w,h0,hb]
 ·cases hj
def qgm (n:Nat) (lo hi:Option Int):Option (Nat × Nat) :=
 let h:=hi.getD n
 let l:=lo.getD 0
 if 0≤l∧l≤h∧h≤n then some (l.toNat,h.toNat) else none
def evI (T:Tm):Option Operand→Option Int→Prop
 | none,none=>True
 | some x,some i=>evT T x = .int .i64 i
 | _,_=>False
theorem qfy {b:Bool} {len cap:Nat} {lo hi:Option Operand} {l h:Option Int} {p q:Nat} (hl:evI T lo l) (hh:evI T hi h) (hc:qgm len l h=some (p,q)) (hcap:len≤cap) (w:World) :
  (Instr.sliceBounds b len cap (lo.map (evT T)) (hi.map (evT T)) none).run P w = .ok (p,q,cap) w:=by
 unfold qgm at hc
 simp only at hc
 split at hc
 ·rename_i hk
  simp only [Option.some.injEq,Prod.mk.injEq] at hc
  obtain ⟨rfl,rfl⟩:=hc
  cases lo<;>cases l<;>simp only [evI] at hl<;>cases hi<;>cases h<;>simp only [evI] at hh<;>simp only [Option.getD_some,Option.getD_none] at hk ⊢
  ·simp [Instr.sliceBounds]
  ·have h1:0≤(‹Int› : Int)∧(‹Int› : Int)≤(cap:Int):=by omega
   simp [Instr.sliceBounds,hh,Instr.sliceBound,asIntOf,h1]
  ·have h1:0≤(‹Int› : Int)∧(‹Int› : Int)≤(len:Int):=by omega
   simp [Instr.sliceBounds,hl,Instr.sliceBound,asIntOf,h1]
  ·rename_i x1 i1 x2 i2
   have h1:0≤i2∧i2≤(cap:Int):=by omega
   have h2:0≤i1∧i1≤((i2.toNat:Nat):Int):=by omega
   simp [Instr.sliceBounds,hl,hh,Instr.sliceBound,asIntOf,h1,h2]
   omega
 ·cases hc
theorem qxg {t:TypeId} {x:Operand} {lo hi:Option Operand} {l h:Option Int} {s:ByteArray} {p q:Nat} (ht:P.underlying t=some .string) (hx:evT T x = .string s) (hl:evI T lo l) (hh:evI T hi h) (hc:qgm s.size l h=some (p,q)) :
  YV P S T ⟨dst,.slice t x lo hi none,ty,pos,af,g⟩ (.string (s.extract p q)):=by
 intro w _
 have hb:=qfy (P:=P) (b:=false) (cap:=s.size) hl hh hc (Nat.le_refl _) w
 simp [execOp,hx,Instr.sliceAt,Instr.slice,Sem.run_bind,run_underlying ht w,hb]
def qj2 (v:Value) (k p q:Nat):Value :=
 match v with
 | .slice a _ cap => .slice (if cap=p then a else a.map (·.add (p*k))) (q-p) (cap-p)
 | v=>v
theorem qxh {α : Type} [Rep α] {M:Mm} {v:Value} {l:List α} (hr:repL M v l) {lo hi:Option Int} {p q:Nat} (hc:qgm l.length lo hi=some (p,q)):repL M (qj2 v (Rep.k α) p q) ((l.take q).drop p):=by
 obtain ⟨a,cap,rfl,h1,h2,h3,h4⟩:=hr
 unfold qgm at hc
 simp only at hc
 split at hc
 ·rename_i hk
  simp only [Option.some.injEq,Prod.mk.injEq] at hc
  obtain ⟨rfl,rfl⟩:=hc
  generalize lo.getD 0=lo at *
  generalize hi.getD (l.length:Int)=hi at *
  have hlen:((l.take hi.toNat).drop lo.toNat).length=hi.toNat-lo.toNat:=by simp;omega
  refine ⟨if cap=lo.toNat then a else a.map (·.add (lo.toNat*Rep.k α)),cap-lo.toNat,?_,?_,?_,?_,?_⟩
  ·simp only [qj2,hlen]
  ·rw [hlen];omega
  ·intro hn
   split at hn
   ·omega
   ·cases a with
    | none=>have:=h2 rfl;omega
    | some a=>cases hn
  ·rw [hlen]
   refine Nat.le_trans (Nat.mul_le_mul_right _ ?_) h3
   omega
  ·intro i x hx
   rw [List.getElem?_drop,List.getElem?_take] at hx
   split at hx
   ·rename_i hlt
    obtain ⟨b,off,m,rfl,hb,hle,hrep⟩:=h4 _ x hx
    have hne : ¬ cap=lo.toNat:=by omega
    refine ⟨b,off+lo.toNat*Rep.k α,m,by rw [if_neg hne];simp [Addr.add_mid],hb,?_,?_⟩
    ·rw [Nat.add_mul] at hle;omega
    ·rw [Nat.add_mul,← Nat.add_assoc] at hrep;exact hrep
   ·cases hx
 ·cases hc
theorem qs2 {t:TypeId} {k n:Nat} {x:Operand} {lo hi:Option Operand} {l h:Option Int} {v:Value} {p q cap:Nat} {a:Option Addr} (ht:IL P t k) (hx:evT T x=v) (hv:v = .slice a n cap) (hl:evI T lo l) (hh:evI T hi h) (hc:qgm n l h=some (p,q)) (hn:n≤cap) :
  YV P S T ⟨dst,.slice t x lo hi none,ty,pos,af,g⟩ (qj2 v k p q):=by
 intro w _
 subst hv
 obtain ⟨e,h1,h2⟩:=ht
 have hb:=qfy (P:=P) (b:=true) (cap:=cap) hl hh hc hn w
 simp [execOp,hx,Instr.sliceAt,Instr.slice,Sem.run_bind,run_underlying h1 w,hb,qax h2,qj2]
end
def idx {α : Type} (l:List α) (j:Int):Option α := if 0≤j then l[j.toNat]? else none
theorem q3p {α : Type} {l:List α} {j:Int} {x : α} (h:idx l j=some x):0≤j∧j<l.length∧l[j.toNat]? = some x:=by
 unfold idx at h
 split at h
 ·have:=(List.getElem?_eq_some_iff.1 h).1
  exact ⟨by omega,by omega,h⟩
 ·cases h
theorem q5o {α : Type} [Rep α] {M:Mm} {v:Value} {l:List α} (h:repL M v l) {j:Int} {x : α} (hj:idx l j=some x) :
  ∃ b off cap p,v = .slice (some ⟨b,off,none⟩) l.length cap∧0≤j∧j<l.length∧M b=some p∧rep M (sl p (off+j.toNat*Rep.k α) (Rep.k α)) x:=by
 obtain ⟨h0,h1,hx⟩:=q3p hj
 obtain ⟨a,cap,rfl,_,_,_,h4⟩:=h
 obtain ⟨b,off,p,rfl,hb,_,hr⟩:=h4 _ x hx
 exact ⟨b,off,cap,p,rfl,h0,h1,hb,hr⟩
theorem qqp {α : Type} [Rep α] {M:Mm} {v:Value} {l:List α} (h:repL M v l) : ∃ a cap,v = .slice a l.length cap∧l.length≤cap:=by
 obtain ⟨a,cap,rfl,h1,_⟩:=h
 exact ⟨a,cap,rfl,h1⟩
def qa7 {α : Type} {n:Nat} (l:Vector α n) (j:Int):Option α := if 0≤j then l[j.toNat]? else none
theorem qs3 {α : Type} {n:Nat} {l:Vector α n} {j:Int} {x : α} (h:qa7 l j=some x):0≤j∧j<n ∧ ∃ h:j.toNat<n,l[j.toNat]=x:=by
 unfold qa7 at h
 split at h
 ·have:=Vector.getElem?_eq_some_iff.1 h
  obtain ⟨h1,h2⟩:=this
  exact ⟨by omega,by omega,h1,h2⟩
 ·cases h
theorem qoh {α : Type} [Rep α] {n:Nat} {M:Mm} {cs:List Value} {l:Vector α n} (h:rep M cs l) {j:Int} {x : α} (hj:qa7 l j=some x):0≤j∧j<n∧rep M (sl cs (j.toNat*Rep.k α) (Rep.k α)) x:=by
 obtain ⟨h0,h1,h2,rfl⟩:=qs3 hj
 exact ⟨h0,h1,h.2.2 _ h2⟩
def qe2 {α : Type} {n:Nat} (l:Vector α n) (j:Int) (x : α):Option (Vector α n):=if 0≤j∧j<n then some (l.setIfInBounds j.toNat x) else none
theorem qs4 {α : Type} {n:Nat} {l l':Vector α n} {j:Int} {x : α} (h:qe2 l j x=some l'):0≤j∧j<n∧l'=l.setIfInBounds j.toNat x:=by
 unfold qe2 at h
 split at h
 ·rename_i hk
  exact ⟨hk.1,hk.2,(Option.some.inj h).symm⟩
 ·cases h
end Go.Proofs.Yteilffoclpgijaa
namespace Go.Proofs.Yteilffoclpgijaa
open Go.RowKit
structure GOp where
 kind:Int
 key:Int
 n:Int
deriving DecidableEq,Inhabited
def qim (o:GOp):List Value:=[.int .i64 o.kind,.int .i64 o.key,.int .i64 o.n]
def RRow (S:Nat→Prop) (w:World) (v:Value) (size bytes n:Nat) (cells:List Value):Prop :=
 ∃ a cap,v = .slice a n cap∧n≤cap∧(a=none→cap=0)∧cells.length=n*size∧n*bytes≤140737488351232 ∧
  ∀ i u,cells[i]? = some u → ∃ b off,a=some ⟨b,off,none⟩∧S b∧w.cell? ⟨b,off+i,none⟩=some u
theorem qry {w:World} {a:Addr} {v:Value} (h:w.cell? a=some v):a.block<w.heap.size:=block_lt_of_cell h
theorem RRow.mono {S S':Nat→Prop} {w w':World} {v:Value} {size bytes n:Nat} {cells:List Value} (h:RRow S w v size bytes n cells)
  (hs : ∀ b,S b→b<w.heap.size→S' b∧w'.heap[b]? = w.heap[b]?):RRow S' w' v size bytes n cells:=by
 obtain ⟨a,cap,rfl,h1,h2,h3,h4,h5⟩:=h
 refine ⟨a,cap,rfl,h1,h2,h3,h4,fun i u hu => ?_⟩
 obtain ⟨b,off,ha,hb,hc⟩:=h5 i u hu
 have hl:=qry hc
 exact ⟨b,off,ha,(hs b hb hl).1,by rw [← hc];exact World.cell?_of_block (hs b hb hl).2⟩
theorem RRow.later {S:Nat→Prop} {w w':World} {v:Value} {size bytes n:Nat} {cells:List Value} (h:RRow S w v size bytes n cells)
  (hb:Below w.heap.size w w'):RRow S w' v size bytes n cells :=
 h.mono fun b hs hl=>⟨hs,hb.block b hl⟩
theorem RRow.any {S:Nat→Prop} {w:World} {v:Value} {size bytes n:Nat} {cells:List Value} (h:RRow S w v size bytes n cells):RRow (fun _=>True) w v size bytes n cells :=
 h.mono fun _ _ _=>⟨trivial,rfl⟩
def RInts (S:Nat→Prop) (w:World) (v:Value) (l:List Int):Prop:=RRow S w v 1 8 l.length (l.map (Value.int .i64))
def ROps (S:Nat→Prop) (w:World) (v:Value) (l:List GOp):Prop:=RRow S w v 3 24 l.length (l.flatMap qim)
theorem RInts.later {S:Nat→Prop} {w w':World} {v:Value} {l:List Int} (h:RInts S w v l) (hb:Below w.heap.size w w'):RInts S w' v l:=RRow.later h hb
theorem ROps.later {S:Nat→Prop} {w w':World} {v:Value} {l:List GOp} (h:ROps S w v l) (hb:Below w.heap.size w w'):ROps S w' v l:=RRow.later h hb
theorem RInts.at {S:Nat→Prop} {w:World} {a:Option Addr} {n cap:Nat} {l:List Int} (h:RInts S w (.slice a n cap) l) {k:Nat} {x:Int} (hx:l[k]? = some x) :
  ∃ b off,a=some ⟨b,off,none⟩∧S b∧b<w.heap.size∧w.cell? ⟨b,off+k,none⟩=some (.int .i64 x):=by
 obtain ⟨a',cap',he,h1,h2,h3,h4,h5⟩:=h
 cases he
 obtain ⟨b,off,ha,hb,hc⟩:=h5 k (.int .i64 x) (by simp [hx])
 exact ⟨b,off,ha,hb,qry hc,hc⟩
theorem qjj {α : Type} {f : α → List Value} {m:Nat} (hf : ∀ a,(f a).length=m) : ∀ (l:List α) (k:Nat) (a : α) (j:Nat),l[k]? = some a→j<m →
  (l.flatMap f)[k*m+j]? = (f a)[j]? := by
 intro l
 induction l with
 | nil=>intro k a j h;simp at h
 | cons x t ih =>
  intro k a j h hj
  cases k with
  | zero =>
   simp at h
   subst h
   simp only [List.flatMap_cons,Nat.zero_mul,Nat.zero_add]
   rw [List.getElem?_append_left (by rw [hf];exact hj)]
  | succ k =>
   simp only [List.getElem?_cons_succ] at h
   simp only [List.flatMap_cons]
   rw [List.getElem?_append_right (by rw [hf];simp only [Nat.succ_mul];omega)]
   rw [hf,← ih k a j h hj]
   congr 1
   simp only [Nat.succ_mul]
   omega
theorem qvp {α : Type} {f : α → List Value} {m:Nat} (hf : ∀ a,(f a).length=m) (l:List α):(l.flatMap f).length=l.length*m:=by
 induction l with
 | nil=>simp
 | cons x t ih=>simp only [List.flatMap_cons,List.length_append,hf,ih,List.length_cons,Nat.succ_mul];omega
theorem ROps.at {S:Nat→Prop} {w:World} {a:Option Addr} {n cap:Nat} {l:List GOp} (h:ROps S w (.slice a n cap) l) {k:Nat} {o:GOp} (hx:l[k]? = some o) :
  ∃ b off,a=some ⟨b,off,none⟩∧S b∧b<w.heap.size∧w.cell? ⟨b,off+k*3,none⟩=some (.int .i64 o.kind) ∧
   w.cell? ⟨b,off+k*3+1,none⟩=some (.int .i64 o.key)∧w.cell? ⟨b,off+k*3+2,none⟩=some (.int .i64 o.n):=by
 obtain ⟨a',cap',he,h1,h2,h3,h4,h5⟩:=h
 cases he
 have hf : ∀ a,(qim a).length=3:=fun _=>rfl
 obtain ⟨b,off,ha,hb,hc⟩:=h5 (k*3+0) (.int .i64 o.kind) (by rw [qjj hf l k o 0 hx (by omega)];rfl)
 obtain ⟨b1,off1,ha1,hb1,hc1⟩:=h5 (k*3+1) (.int .i64 o.key) (by rw [qjj hf l k o 1 hx (by omega)];rfl)
 obtain ⟨b2,off2,ha2,hb2,hc2⟩:=h5 (k*3+2) (.int .i64 o.n) (by rw [qjj hf l k o 2 hx (by omega)];rfl)
 rw [ha] at ha1 ha2
 cases ha1
 cases ha2
 exact ⟨b,off,ha,hb,qry hc,hc,hc1,hc2⟩
theorem RInts.shape {S:Nat→Prop} {w:World} {v:Value} {l:List Int} (h:RInts S w v l) : ∃ a cap,v = .slice a l.length cap∧l.length≤17592186043904:=by
 obtain ⟨a,cap,he,h1,h2,h3,h4,h5⟩:=h
 exact ⟨a,cap,he,by omega⟩
theorem ROps.shape {S:Nat→Prop} {w:World} {v:Value} {l:List GOp} (h:ROps S w v l) : ∃ a cap,v = .slice a l.length cap∧l.length≤17592186043904:=by
 obtain ⟨a,cap,he,h1,h2,h3,h4,h5⟩:=h
 exact ⟨a,cap,he,by omega⟩
theorem qin {α : Type} {l:List α} {k:Nat} (h:k<l.length) : ∃ x,l[k]? = some x:=⟨l[k],by simp⟩
theorem qk4 {α : Type} {l:List α} {k:Nat} {x : α} (h:l[k]? = some x):l.take (k+1)=l.take k++[x]:=by
 rw [List.take_add_one,h];rfl
theorem RRow.of_own {base:Nat} {e:TypeId} {size bytes n:Nat} {v:Value} {xs:List Value} {w:World} (h:w.ownsRow base e size v n xs) (hb:n*bytes≤140737488351232) :
  RRow (fun b=>base≤b) w v size bytes n xs:=by
 obtain ⟨hl,h | ⟨g,cap,cur,rfl,hg,hh,hn,hc,hs,ht⟩⟩:=h
 ·obtain ⟨rfl,rfl⟩:=h
  refine ⟨none,0,rfl,Nat.le_refl _,fun _=>rfl,hl,hb,fun i u hu => ?_⟩
  have:xs=[]:=by simpa using hl
  subst this
  simp at hu
 ·refine ⟨some ⟨g,0,none⟩,cap,rfl,hn,fun h=>by simp at h,hl,hb,fun i u hu=>⟨g,0,rfl,hg,?_⟩⟩
  subst ht
  simp [World.cell?,hh]
  rw [List.getElem?_take] at hu
  split at hu
  ·simpa using hu
  ·simp at hu
theorem qoi {P:Program} {w:World} {ops:Array Oper} {rest:List Oper} {o:Oper} {a:Act} {Q:Exit→Act→World→Prop} (hgd:Region.wanted o (yielded ops a.tmps)=true) (s x:Operand) (t:TypeId)
  (ho:o.op = .call { callee := .builtin .append,args := #[s,x],argTypes := #[t,t] })
  (base:Nat) (e:TypeId) (z:Value) (size bytes:Nat) (ht:P.underlying t=some (.slice e)) (hi:(P.info? e).map (fun i=>(i.zero,i.size,i.bytes))=some (some z,size,bytes)) (hzs:z.cells.size=size) (hsz:0<size)
  (v vx:Value) (n m:Nat) (xs news:List Value) (hs:a.eval s=v) (hown:w.ownsRow base e size v n xs) (hx:a.eval x=vx) (S:Nat→Prop) (hr:RRow S w vx size bytes m news) (h1 : ∀ u∈news,u.oneCell'=true)
  (hbytes:(n+m)*bytes≤140737488355328) (hby:0<bytes) (hbase:base≤w.heap.size)
  (h : ∀ v' w',w'.ownsRow base e size v' (n+m) (xs++news)→w.grownBy w' v.ownBlock→wpList P ops Q rest (a.put o.dst v') w'):wpList P ops Q (o::rest) a w:=by
 obtain ⟨i,hi0,hz,hsize,hbyt⟩:=info_parts hi
 refine wpList_step fun K hK => ?_
 rw [if_pos hgd]
 obtain ⟨ad,cap,rfl,hn,hnil,hlen,hb,hcell⟩:=hr
 cases ad with
 | none =>
  have:cap=0:=hnil rfl
  subst this
  have:m=0:=by omega
  subst this
  have:news=[]:=by simpa using hlen
  subst this
  have hrun:=run_append_owned_none (P:=P) (w:=w) base t o.type e i size ht hi0 v n xs hown
  unfold Oper.wp
  simp [execOp,ho,resolve,invoke,builtin,hs,hx,hrun,Result.andThen]
  exact hK _ _ (h v w (by simpa using hown) (World.grownBy.refl ..))
 | some ad =>
  refine wp_append_own w s x t ho base e i z size bytes ht hi0 hz hsize hbyt hzs hsz v n xs hs hown ad m cap news hx hlen (fun j u hj => ?_) h1 (by unfold maxLen;exact Nat.le_trans (Nat.le_mul_of_pos_right _ hby) (Nat.le_trans hbytes (by decide))) hbytes hbase fun v' w' h2 h3 _=>hK _ _ (h v' w' h2 h3)
  obtain ⟨b,off,ha,_,hc⟩:=hcell j u hj
  cases ha
  simpa [Addr.add_lit] using hc
theorem RRow.one (w:World) (u:Value) (t:TypeId) (bytes:Nat) (hb:bytes≤140737488351232):RRow (fun _=>True) (w.alloc (.cells #[u] t)) (.slice (some ⟨w.heap.size,0,none⟩) 1 1) 1 bytes 1 [u]:=by
 refine ⟨_,_,rfl,Nat.le_refl _,fun h=>by simp at h,rfl,by omega,fun i x hx=>⟨w.heap.size,0,rfl,trivial,?_⟩⟩
 have h:=cell_one_new w u t i x hx
 rwa [Addr.add_lit] at h
theorem qvq (w:World) (base:Nat) (e:TypeId) (size:Nat):w.ownsRow base e size (.slice none 0 0) 0 []:=⟨by simp,.inl ⟨rfl,rfl⟩⟩
def q0k (w:World) (l:List Int) (e:Ending) (w':World):Prop := ∃ v,e = .returned v∧RInts (fun b=>w.heap.size≤b) w' v l∧Below w.heap.size w w'
def qeh (P:Program) (e:TypeId):Bool :=
 (match P.underlying e with | some (.struct _) | some (.array _ _) | none=>false | _=>true)&&((P.info? e).map (·.size)==some 1)
theorem q0l {P:Program} {e:TypeId} (he:qeh P e=true) (cs:Array Value) (k:Nat) (v:Value) (hv:cs[k]? = some v) (w:World):(part e cs k).run P w = .ok v w:=by
 unfold qeh at he
 rw [Bool.and_eq_true] at he
 cases hd:P.underlying e with
 | none=>rw [hd] at he;simp at he
 | some d =>
  have hagg:(isAgg e).run P w = .ok false w:=by
   unfold isAgg
   rw [Sem.run_bind,run_underlying hd w]
   rw [hd] at he
   cases d<;>simp_all
  simp [part,Sem.run_bind,hagg,hv]
theorem q0m {P:Program} {e:TypeId} {n:Nat} (he:(P.info? e).map (·.size)=some n) (w:World):(sizeOf e).run P w = .ok n w:=by
 cases hq:P.info? e with
 | none=>simp [hq] at he
 | some i =>
  rw [hq] at he
  simp only [Option.map_some,Option.some.injEq] at he
  subst he
  simp [sizeOf,typeInfo,hq]
theorem qqq {P:Program} {t e:TypeId} {n:Nat} (hu:P.underlying t=some (.array n e)) (he:qeh P e=true) (cs:Array Value) (k:Nat) (v:Value) (hk:k<n) (hv:cs[k]? = some v) (w:World) :
  (Instr.index t (.agg cs) (.int .i64 (k:Int))).run P w = .ok v w:=by
 have hs:(P.info? e).map (·.size)=some 1:=by unfold qeh at he;rw [Bool.and_eq_true,beq_iff_eq] at he;exact he.2
 have hp:=q0l he cs k v hv w
 unfold Instr.index
 simp [asIntOf,Sem.run_bind,run_underlying hu w,hk,q0m hs w,hp]
theorem Below.drewN {B:Nat} {a w:World} (h:Below B a w) (n:Nat):Below B a (w.drewN n):=⟨h.os,h.tape,h.output,h.size,h.block⟩
end Go.Proofs.Yteilffoclpgijaa
namespace Go.Proofs.Yteilffoclpgijaa
open Go.RowKit
def q0n (S:Nat→Prop) (w:World) (v:Value) (xs:List Int):Prop:=RRow S w v 1 1 xs.length (xs.map (Value.int .u8))
theorem qnq {P:Program} {w:World} {v:Value} {S:Nat→Prop} {xs:List Int} (hr:q0n S w v xs) {src dst e:TypeId} (hs:P.underlying src=some (.slice e)) (he:P.underlying e=some (.int .u8)) (hd:P.underlying dst=some .string) :
  (convert src dst v).run P w = .ok (.string (strOfNums xs)) w:=by
 obtain ⟨a,cap,rfl,h1,h2,h3,h4,h5⟩:=hr
 cases a with
 | none =>
  have hc:=h2 rfl
  have:xs=[]:=List.eq_nil_of_length_eq_zero (by omega)
  subst this
  rw [run_convert_bytes_nil w src e hs he _ _ dst hd]
  rfl
 | some a =>
  cases xs with
  | nil =>
   rw [run_convert_bytes_string w src dst e _ _ _ hs he hd]
   have hl:(loadCells a ([]:List Int).length).run P w = .ok (([]:List Int).map (Value.int .u8)).toArray w:=by
    simpa using run_loadCells_list (P:=P) w a [] (fun j v hj=>by simp at hj)
   rw [run_bytesToString w _ _ _ [] hl]
   rfl
  | cons x t =>
   obtain ⟨b,off,ha,_,_⟩:=h5 0 (.int .u8 x) (by simp)
   cases ha
   refine run_convert_bytes_arg w src e hs he b off _ _ (x::t) rfl (fun i hi => ?_) dst hd
   obtain ⟨b',off',ha',_,hc⟩:=h5 i (.int .u8 ((x::t).getD i 0)) (by rw [List.getElem?_map,List.getD_eq_getElem?_getD,List.getElem?_eq_getElem hi];rfl)
   cases ha'
   exact hc
theorem q5p {a b:ByteArray} (h:a.data.toList=b.data.toList):a=b:=by
 cases a;cases b
 simp only at h
 congr 1
 exact Array.toList_inj.1 h
end Go.Proofs.Yteilffoclpgijaa
namespace Go.Proofs.Yteilffoclpgijaa
set_option linter.unusedVariables false
open Go.RowKit
open Rep (rep)
theorem qko {P:Program} {f:FuncId} {fn:Func} {c:Code} (hf:P.funcs[f]? = some fn) (hname:(fn.name == "runtime.NumGoroutine")=false) (hb:fn.body=some c) (args:Array Value) (w:World) :
  (callFunc f args).run P w = .ok (.enter f args) w:=by
 have h1:fn.name ≠ "runtime.NumGoroutine" := by simpa using hname
 simp [callFunc,hf,h1,hb]
theorem qfs {α : Type} : ∀ {H:List α} {j:Nat} {e : α},H[j]? = some e→H.Perm (e::H.eraseIdx j)
 | [],_,_,h=>by simp at h
 | a::t,0,e,h=>by simp at h;subst h;exact List.Perm.refl _
 | a::t,j+1,e,h=>by
  simp only [List.getElem?_cons_succ] at h
  simp only [List.eraseIdx_cons_succ]
  exact ((qfs h).cons a).trans (List.Perm.swap _ _ _)
theorem qgo {α : Type} : ∀ {H:List α} {j:Nat} {e : α} (e' : α),H[j]? = some e→(e'::H.eraseIdx j).Perm (H.set j e')
 | [],_,_,_,h=>by simp at h
 | a::t,0,e,e',h=>by simp
 | a::t,j+1,e,e',h=>by
  simp only [List.getElem?_cons_succ] at h
  simp only [List.eraseIdx_cons_succ,List.set_cons_succ]
  exact (List.Perm.swap _ _ _).trans ((qgo e' h).cons a)
theorem q44 (cs:List Value) (o:Nat):pt cs o []=cs:=by simp [pt]
theorem q0o (cs:List Value) (o:Nat) (v:Value) (ws:List Value) (h:o<cs.length):pt (cs.set o v) (o+1) ws=pt cs o (v::ws):=by
 unfold pt
 rw [List.take_set,List.drop_set,if_pos (by omega)]
 rw [List.take_succ_eq_append_getElem h,List.set_append_right _ _ (by simp;omega)]
 simp only [List.length_take,List.length_cons,List.append_assoc]
 have:o-min o cs.length=0:=by omega
 rw [this]
 simp only [List.set_cons_zero,List.cons_append,List.nil_append]
 congr 3
 congr 1
 omega
theorem qk5 {P:Program} {b:Nat} {t:TypeId} {o:Nat} : ∀ (ws:List Value) (i:Nat) (w:World) (cs:List Value),w.heap[b]? = some (.cells cs.toArray t (0,0))→o+i+ws.length≤cs.length→(∀ u∈ws,u.oneCell'=true) →
  ∃ w',(storeCells ⟨b,o,none⟩ ws i).run P w = .ok () w'∧w'.os=w.os∧w'.tape=w.tape∧w'.output=w.output∧w'.heap[b]? = some (.cells (pt cs (o+i) ws).toArray t (0,0))∧(∀ k,k≠b→w'.heap[k]? = w.heap[k]?)∧w'.heap.size=w.heap.size:=by
 intro ws
 induction ws with
 | nil=>intro i w cs hb hl h1;exact ⟨w,by simp [storeCells],rfl,rfl,rfl,by rw [q44];exact hb,fun _ _=>rfl,rfl⟩
 | cons v ws ih =>
  intro i w cs hb hl h1
  simp only [List.length_cons] at hl
  have hv:=h1 v List.mem_cons_self
  have hcell:w.cell? ⟨b,o+i,none⟩=some (cs[o+i]'(by omega)):=by simp [World.cell?,hb]
  have hfr:w.frozen? ⟨b,o+i,none⟩=false:=by simp [World.frozen?,hb]
  have hb':(w.setCell ⟨b,o+i,none⟩ v).heap[b]? = some (.cells (cs.set (o+i) v).toArray t (0,0)):=by
   simp [World.setCell,Array.getElem?_modify,hb]
  obtain ⟨w',hr,e1,e2,e3,e4,e5,e6⟩:=ih (i+1) (w.setCell ⟨b,o+i,none⟩ v) (cs.set (o+i) v) hb' (by simp;omega) (fun u hu=>h1 u (List.mem_cons_of_mem _ hu))
  refine ⟨w',?_,e1,e2,e3,?_,fun k hk => ?_,?_⟩
  ·unfold storeCells
   rw [Sem.run_bind,Addr.add_mid,run_store P w _ v _ hv,hcell]
   simp only [hfr,Bool.false_eq_true,if_false,Result.andThen]
   exact hr
  ·rw [e4,← Nat.add_assoc,q0o _ _ _ _ (by omega)]
  ·rw [e5 k hk]
   exact Below.heap_setCell _ _ _ _ hk
  ·rw [e6];simp [World.setCell]
section
variable {P:Program} {n:Nat} {Q:Exit→Tm→World→Prop} {T:Tm} {w w0:World} {X:Nat→Prop} {M:Mm} {H:List Ent} {K:Tm→World→Prop} {dst:Option Tmp} {ty:TypeId} {pos:String} {af:Array Edge} {g:Option (Nat × Bool)}
theorem OW.of_run {o:Oper} {v:Value} {w':World} (h:(execOp (evT T) o).run P w = .ok (.value v) w') (k:K (qmg T o.dst v) w'):OW P n Q o T w K:=by
 intro hok a ha
 unfold Oper.wp
 rw [ha.eval,h]
 exact ⟨_,ha.put o.dst v (operOk.lt hok),k⟩
theorem OW.of_skip {o:Oper} {w':World} (h:(execOp (evT T) o).run P w = .ok .skip w') (k:K (qmg T o.dst undef) w'):OW P n Q o T w K:=by
 intro hok a ha
 unfold Oper.wp
 rw [ha.eval,h]
 exact ⟨_,ha.put o.dst undef (operOk.lt hok),k⟩
theorem O_st {j b off m:Nat} {cs ws:List Value} {t t':TypeId} {x y:Operand} {v:Value} (hSt:St w0 X M H w) (hj:H[j]? = some (.box b cs t')) (hn:(P.info? t).map (·.size)=some m) (hx:evT T x = .pointer (some ⟨b,off,none⟩)) (hy:evT T y=v)
  (hv:v.cells.toList=ws) (hm:ws.length=m) (h1 : ∀ u∈ws,u.oneCell'=true) (hle:off+m≤cs.length) (k : ∀ w',St w0 X M (H.set j (.box b (pt cs off ws) t')) w'→K T w') :
  OW P n Q ⟨none,.store t x y,ty,pos,af,g⟩ T w K:=by
 have hbx:=(hSt.ents _ (List.mem_of_getElem? hj)).1
 obtain ⟨w',hr,e1,e2,e3,e4,e5,e6⟩:=qk5 (P:=P) (o:=off) ws 0 w cs hbx (by omega) h1
 have hsz:v.cells.size=m:=by rw [← hm,← hv];simp
 refine OW.of_skip (w':=w') ?_ ?_
 ·simp [execOp,hx,hy,Instr.storeAt,Instr.sureAddr,storeVar,Sem.run_bind,qax hn,hsz,hv,hr]
 ·exact k w' (((hSt.perm (qfs hj)).write e1 e2 e3 e4 e5 e6).perm (qgo _ hj))
def TZ (P:Program) (t:TypeId) (zs:List Value):Prop := ∃ i z,P.info? t=some i∧i.zero=some z∧z.cells.toList=zs
theorem q5q {t:TypeId} {zs:List Value} (hz:TZ P t zs) (hSt:St w0 X M H w) (k : ∀ b w',w0.heap.size≤b→St w0 X M (.box b zs t::H) w'→K (qmg T dst (.pointer (some ⟨b,0,none⟩))) w'):OW P n Q ⟨dst,.alloc t,ty,pos,af,g⟩ T w K:=by
 obtain ⟨i,z,h1,h2,h3⟩:=hz
 have hc:z.cells=zs.toArray:=by rw [← h3]
 refine OW.of_run (v := .pointer (some ⟨w.heap.size,0,none⟩)) (w':=w.alloc (.cells zs.toArray t)) ?_ (k _ _ hSt.size (hSt.alloc zs t))
 simp [execOp,Instr.alloc,zeroValue,typeInfo,Sem.run_bind,h1,h2,newVar,newRow,newObj,hc]
 rfl
theorem zag {t:TypeId} {x:Operand} {v:Value} {cs:List Value} (hx:evT T x=v) (hv:v.cells.toList=cs) (hSt:St w0 X M H w) (k : ∀ b w',w0.heap.size≤b→St w0 X M (.box b cs t::H) w'→K (qmg T dst (.pointer (some ⟨b,0,none⟩))) w'):OW P n Q ⟨dst,.box t x,ty,pos,af,g⟩ T w K:=by
 have hc:v.cells=cs.toArray:=by rw [← hv]
 refine OW.of_run (v := .pointer (some ⟨w.heap.size,0,none⟩)) (w':=w.alloc (.cells cs.toArray t)) ?_ (k _ _ hSt.size (hSt.alloc cs t))
 simp [execOp,Instr.box,hx,newVar,newRow,newObj,hc]
 rfl
theorem qs5 : ∀ (vs:List Value) (cs:List Value) (off k:Nat),off+k+vs.length≤cs.length →
  (vs.zipIdx k).foldl (fun (c:Array Value) (x:Value × Nat)=>c.setIfInBounds (off+x.2) x.1) cs.toArray=(pt cs (off+k) vs).toArray:=by
 intro vs
 induction vs with
 | nil=>intro cs off k _;simp [q44]
 | cons v vs ih =>
  intro cs off k h
  simp only [List.length_cons] at h
  simp only [List.zipIdx_cons,List.foldl_cons]
  have:=ih (cs.set (off+k) v) off (k+1) (by simp;omega)
  rw [← Nat.add_assoc,q0o _ _ _ _ (by omega)] at this
  rw [← this]
  simp
def qbj (place:Nat→Option (Nat × Nat)):List Value→List (Nat × Value)→Option (List Value)
 | cs,[]=>some cs
 | cs,(i,v)::rest =>
  match place i with
  | none=>none
  | some (off,size)=>if v.cells.size=size∧off+size≤cs.length then qbj place (pt cs off v.cells.toList) rest else none
theorem qk6 {place:Nat→Option (Nat × Nat)} : ∀ (parts:List (Nat × Value)) (cs ds:List Value),qbj place cs parts=some ds→Instr.fill place cs.toArray parts=some ds.toArray:=by
 intro parts
 induction parts with
 | nil=>intro cs ds h;simp only [qbj,Option.some.injEq] at h;subst h;rfl
 | cons p rest ih =>
  intro cs ds h
  obtain ⟨i,v⟩:=p
  simp only [qbj] at h
  simp only [Instr.fill]
  cases hp:place i with
  | none=>rw [hp] at h;cases h
  | some q =>
   obtain ⟨off,size⟩:=q
   rw [hp] at h
   simp only at h ⊢
   split at h
   ·rename_i hk
    have hc : ¬ (v.cells.size≠size||off+v.cells.size>cs.toArray.size)=true:=by simp;omega
    rw [if_neg hc,← ih _ _ h]
    congr 1
    have hlen:v.cells.toList.length=v.cells.size:=by simp
    have:=qs5 v.cells.toList cs off 0 (by omega)
    simp only [Nat.add_zero] at this
    rw [← this,← Array.foldl_toList]
    simp [Array.toList_zipIdx]
   ·cases h
def TB (P:Program) (t:TypeId) (zs:List Value) (pl:List (Nat × Nat)):Prop :=
 ∃ fields i z,P.underlying t=some (.struct fields)∧P.info? t=some i∧i.zero=some z∧z.cells.toList=zs∧fields.toList.map (·.offset)=pl.map (·.1) ∧ ∀ (j:Nat) (f:Field),fields.toList[j]? = some f→(P.info? f.type).map (·.size)=(pl[j]?).map (·.2)
theorem qyq {fs:List Field} {pl:List (Nat × Nat)} (h1:fs.map (·.offset)=pl.map (·.1)) (h2 : ∀ (j:Nat) (f:Field),fs[j]? = some f→(P.info? f.type).map (·.size)=(pl[j]?).map (·.2)) (w:World) :
  (fs.mapM fun f=>Functor.map (Prod.mk f.offset) (sizeOf f.type):Sem (List (Nat × Nat))).run P w = .ok pl w:=by
 induction fs generalizing pl with
 | nil =>
  cases pl with
  | nil=>simp
  | cons a t=>simp at h1
 | cons f fs ih =>
  cases pl with
  | nil=>simp at h1
  | cons a t =>
   simp only [List.map_cons,List.cons.injEq] at h1
   have hs:=h2 0 f rfl
   simp only [List.getElem?_cons_zero,Option.map_some] at hs
   have:=ih h1.2 (fun j f hf=>h2 (j+1) f hf)
   simp [List.mapM_cons,Sem.run_bind,qax hs w,this,h1.1]
theorem q5r {S:World→Prop} {t:TypeId} {zs ds:List Value} {pl:List (Nat × Nat)} {parts:List (Nat × Operand)} (vs:List (Nat × Value)) (ht:TB P t zs pl) (hp:parts.map (fun p=>(p.1,evT T p.2))=vs) (hd:qbj (pl[·]?) zs vs=some ds) :
  YV P S T ⟨dst,.build t parts.toArray,ty,pos,af,g⟩ (.agg ds.toArray):=by
 intro w _
 obtain ⟨fields,i,z,h1,h2,h3,h4,h5,h6⟩:=ht
 have hz:z.cells=zs.toArray:=by rw [← h4]
 have hpl:=qyq (P:=P) h5 h6 w
 have hm:(fields.mapM fun f=>Functor.map (Prod.mk f.offset) (sizeOf f.type):Sem (Array (Nat × Nat))).run P w = .ok pl.toArray w:=by
  rw [Array.mapM_eq_mapM_toList]
  rw [Sem.run_map,hpl]
  rfl
 have hf:=qk6 (place:=fun i=>pl[i]?) vs zs ds hd
 have hv:(parts.toArray.map fun (p:Nat × Operand)=>(p.1,evT T p.2)).toList=vs:=by rw [← hp];simp
 simp only [execOp,Instr.build]
 simp only [Sem.run_bind,zeroValue,typeInfo]
 simp [Sem.run_bind,run_underlying h1 w,hm,hz,hp,hf,h2,h3]
theorem q7u (a b:List Value) (ws:List Value) (h:ws.length≤b.length):pt (a++b) a.length ws=a++ws++b.drop ws.length:=by
 unfold pt
 simp [List.drop_append]
theorem q0p (k:Nat) : ∀ (vs:List Value) (i:Nat) (done rest:List Value),done.length=i*k→rest.length=vs.length*k→(∀ v∈vs,v.cells.size=k) →
  qbj (fun i=>some (i*k,k)) (done++rest) (vs.zipIdx i |>.map fun p=>(p.2,p.1))=some (done++vs.flatMap (fun v=>v.cells.toList)):=by
 intro vs
 induction vs with
 | nil=>intro i done rest h1 h2 h3;simp at h2;subst h2;simp [qbj]
 | cons v vs ih =>
  intro i done rest h1 h2 h3
  have hv:=h3 v List.mem_cons_self
  simp only [List.length_cons,Nat.add_mul,Nat.one_mul] at h2
  simp only [List.zipIdx_cons,List.map_cons,qbj]
  rw [if_pos ⟨hv,by simp;omega⟩]
  have hp:=q7u done rest v.cells.toList (by simp;omega)
  rw [h1] at hp
  rw [hp]
  have:=ih (i+1) (done++v.cells.toList) (rest.drop k) (by simp [h1,hv,Nat.add_mul]) (by simp;omega) (fun u hu=>h3 u (List.mem_cons_of_mem _ hu))
  simp only [Array.length_toList,hv]
  rw [this]
  simp
theorem qkp {α : Type} [Rep α] {M:Mm} {b:Nat} {vs:List (List Value)} {l:List α} {cap:Nat} (hb:M b=some vs.flatten) (hl:vs.length=l.length) (hc:l.length≤cap) (hby:l.length*Rep.bytes α ≤ 140737488351232) (h : ∀ (i:Nat) ws x,vs[i]? = some ws→l[i]? = some x→rep M ws x) :
  repL M (.slice (some ⟨b,0,none⟩) l.length cap) l:=by
 refine ⟨some ⟨b,0,none⟩,cap,rfl,hc,fun h=>(by cases h),hby,fun i x hx => ?_⟩
 have hi:i<vs.length:=by rw [hl];exact (List.getElem?_eq_some_iff.1 hx).1
 have hlens : ∀ ws∈vs,ws.length=Rep.k α := by
  intro ws hws
  obtain ⟨j,hj⟩:=List.getElem?_of_mem hws
  have hjl:j<l.length:=by rw [← hl];exact (List.getElem?_eq_some_iff.1 hj).1
  exact Rep.len (h j ws l[j] hj (by simp))
 have hfl : ∀ (us:List (List Value)),(∀ ws∈us,ws.length=Rep.k α)→us.flatten.length=us.length*Rep.k α := by
  intro us
  induction us with
  | nil=>simp
  | cons u us ih=>intro hu;simp only [List.flatten_cons,List.length_append,List.length_cons,Nat.add_mul,Nat.one_mul];rw [ih (fun w hw=>hu w (List.mem_cons_of_mem _ hw)),hu u List.mem_cons_self,Nat.add_comm]
 have hsl : ∀ (us:List (List Value)) (i:Nat) (hi:i<us.length),(∀ ws∈us,ws.length=Rep.k α)→sl us.flatten (i*Rep.k α) (Rep.k α)=us[i]:=by
  intro us
  induction us with
  | nil=>intro i hi;simp at hi
  | cons u us ih =>
   intro i hi hu
   have hul:=hu u List.mem_cons_self
   cases i with
   | zero =>
    simp only [Nat.zero_mul,List.flatten_cons,List.getElem_cons_zero,sl,List.drop_zero]
    rw [← hul];simp
   | succ i =>
    simp only [List.flatten_cons,List.getElem_cons_succ,sl]
    rw [← ih i (by simpa using hi) (fun w hw=>hu w (List.mem_cons_of_mem _ hw)),sl]
    rw [Nat.add_mul,Nat.one_mul,← hul,Nat.add_comm,List.drop_length_add_append]
 refine ⟨b,0,vs.flatten,rfl,hb,?_,?_⟩
 ·rw [hfl vs hlens]
  have:=Nat.mul_le_mul_right (Rep.k α) (show i+1≤vs.length from hi)
  rw [Nat.add_mul,Nat.one_mul] at this
  omega
 ·rw [Nat.zero_add,hsl vs i hi hlens]
  exact h i _ x (by simp) hx
def TL (P:Program) (t:TypeId) (k:Nat):Prop := ∃ e i z,P.underlying t=some (.slice e)∧P.info? e=some i∧i.zero=some z∧z.cells.size=k∧i.size=k∧0<k
theorem qfd {t e:TypeId} {i:TypeInfo} {z:Value} {k m:Nat} {vs:List Value} (h2:P.underlying t=some (.slice e)) (h3:P.info? e=some i) (h4:i.zero=some z) (h5:z.cells.size=k) (h6:i.size=k) (h7:0<k) (hm:vs.length=m) (h1 : ∀ v∈vs,v.cells.size=k) (hs:m*k≤1000) (hm0:0<m) (w:World) :
  (Instr.buildSlice t m ((vs.zipIdx.map fun p=>(p.2,p.1)).toArray)).run P w = .ok (.slice (some ⟨w.heap.size,0,none⟩) m m) (w.alloc (.cells (vs.flatMap (fun v=>v.cells.toList)).toArray e)):=by
 have hmk:m*k≠0:=Nat.mul_ne_zero (by omega) (by omega)
 have hlt : ¬ (m*k>16777216):=by omega
 have hf:=qk6 (vs.zipIdx.map fun p=>(p.2,p.1)) ((List.range (m*k)).map (fun j=>z.cells[j%z.cells.size]!)) _ (by
  have:=q0p k vs 0 [] ((List.range (m*k)).map (fun j=>z.cells[j%z.cells.size]!)) (by simp) (by simp [hm]) h1
  simpa using this)
 have ha:((Array.range (m*k)).map fun j=>z.cells[j%z.cells.size]!)=((List.range (m*k)).map (fun j=>z.cells[j%z.cells.size]!)).toArray:=by
  apply Array.ext'
  simp
 simp only [Instr.buildSlice,Sem.run_bind,run_underlying h2 w,Result.andThen,qax (P:=P) (t:=e) (n:=k) (by rw [h3];simp [h6]) w]
 rw [if_neg (by simpa using hlt)]
 simp only [if_neg hmk,Sem.run_bind,zeroValue,typeInfo,h3,h4,Sem.run_pure,Result.andThen,program,Sem.run]
 simp only [pure]
 rw [ha,hf]
 simp only [Sem.run_bind,newRow,newObj]
 rfl
theorem qj5 {t:TypeId} {k m:Nat} {vs:List Value} (ht:TL P t k) (hm:vs.length=m) (h1 : ∀ v∈vs,v.cells.size=k) (hs:m*k≤1000) (hm0:0<m) (w:World) : ∃ e,
  (Instr.buildSlice t m ((vs.zipIdx.map fun p=>(p.2,p.1)).toArray)).run P w = .ok (.slice (some ⟨w.heap.size,0,none⟩) m m) (w.alloc (.cells (vs.flatMap (fun v=>v.cells.toList)).toArray e)):=by
 obtain ⟨e,i,z,h2,h3,h4,h5,h6,h7⟩:=ht
 exact ⟨e,qfd h2 h3 h4 h5 h6 h7 hm h1 hs hm0 w⟩
theorem q3q {α : Type} [Rep α] {t:TypeId} {m:Nat} {parts:List (Nat × Operand)} {l:List α} (vs:List Value) (ht:TL P t (Rep.k α)) (hp:parts.map (fun p=>(p.1,evT T p.2))=vs.zipIdx.map (fun p=>(p.2,p.1))) (hm:vs.length=m) (hl:l.length=m) (hm0:0<m) (hs:m*Rep.k α ≤ 1000) (hby:m*Rep.bytes α ≤ 140737488351232)
  (hSt:St w0 X M H w) (hr : ∀ (i:Nat) v x,vs[i]? = some v→l[i]? = some x→rep M v.cells.toList x) (k : ∀ v M' w',Mm.ext w0.heap.size X M M'→repL M' v l→St w0 X M' H w'→K (qmg T dst v) w'):OW P n Q ⟨dst,.buildSlice t m parts.toArray,ty,pos,af,g⟩ T w K:=by
 have hcells : ∀ v∈vs,v.cells.size=Rep.k α := by
  intro v hv
  obtain ⟨j,hj⟩:=List.getElem?_of_mem hv
  have hjl:j<l.length:=by rw [hl,← hm];exact (List.getElem?_eq_some_iff.1 hj).1
  have:=Rep.len (hr j v l[j] hj (by simp))
  simpa using this
 obtain ⟨e,hrun⟩:=qj5 (P:=P) ht hm hcells hs hm0 w
 have hfl:(vs.flatMap fun v=>v.cells.toList)=(vs.map fun v=>v.cells.toList).flatten:=by rw [List.flatMap_def]
 have hle:=Mm.put_le (M:=M) (b:=w.heap.size) (vs.flatMap fun v=>v.cells.toList) (hSt.none_at (Nat.le_refl _))
 refine OW.of_run (v := .slice (some ⟨w.heap.size,0,none⟩) m m) (w':=w.alloc (.cells (vs.flatMap (fun v=>v.cells.toList)).toArray e)) ?_ (k _ _ _ (hSt.extM _) ?_ (hSt.allocM _ e))
 ·have hpa:(parts.toArray.map fun (p:Nat × Operand)=>(p.1,evT T p.2))=(vs.zipIdx.map fun p=>(p.2,p.1)).toArray:=by rw [← hp];simp
  simp only [execOp,Sem.run_bind]
  rw [show (Array.map (fun x=>match x with | (i,x)=>(i,evT T x)) parts.toArray)=(vs.zipIdx.map fun p=>(p.2,p.1)).toArray from hpa,hrun]
  rfl
 ·subst hl
  refine qkp (vs:=vs.map fun v=>v.cells.toList) (by rw [Mm.put_same,hfl]) (by simp [hm]) (Nat.le_refl _) hby ?_
  intro i ws x hws hx
  rw [List.getElem?_map] at hws
  cases hv:vs[i]? with
  | none=>rw [hv] at hws;cases hws
  | some v =>
   rw [hv] at hws
   simp only [Option.map_some,Option.some.injEq] at hws
   subst hws
   exact Rep.mono hle (hr i v x hv hx)
theorem qs6 {f:FuncId} {fn:Func} {c:Code} {args:List Operand} {ats:Array TypeId} {vs:List Value} {R:Ending→World→Prop} (hf:P.funcs[f]? = some fn) (hname:(fn.name == "runtime.NumGoroutine")=false) (hb:fn.body=some c)
  (ha:args.map (evT T)=vs) (hc:Calls P f vs.toArray w R) (hk : ∀ e w',R e w' → ∃ v,e = .returned v∧K (qmg T dst v) w'):OW P n Q ⟨dst,.call ⟨.value (.func f),args.toArray,ats⟩,ty,pos,af,g⟩ T w K:=by
 intro hok a hfr
 unfold Oper.wp
 have hr:(execOp a.eval ⟨dst,.call ⟨.value (.func f),args.toArray,ats⟩,ty,pos,af,g⟩).run P w = .ok (.enter f vs.toArray) w:=by
  rw [hfr.eval]
  have h1:(args.toArray.map (evT T))=vs.toArray:=by rw [← ha];simp
  have h2:=qko (P:=P) hf hname hb vs.toArray w
  simp [execOp,resolve,evT,Deferred.ofValue,invoke,ha,h2]
 rw [hr]
 show Calls P f vs.toArray w _
 refine hc.mono ?_
 intro e w' he
 obtain ⟨v,rfl,hK⟩:=hk e w' he
 exact ⟨_,hfr.put dst v (operOk.lt hok),hK⟩
theorem q5s:([]:List Operand).map (evT T)=[]:=rfl
theorem zah {x:Operand} {v:Value} (h:evT T x=v):[x].map (evT T)=[v]:=by simp [h]
theorem zai {x y:Operand} {v u:Value} (h:evT T x=v) (h':evT T y=u):[x,y].map (evT T)=[v,u]:=by simp [h,h']
theorem zaj {x y z:Operand} {v u t:Value} (h:evT T x=v) (h':evT T y=u) (h'':evT T z=t):[x,y,z].map (evT T)=[v,u,t]:=by simp [h,h',h'']
theorem q5t {x y z a:Operand} {v u t s:Value} (h:evT T x=v) (h':evT T y=u) (h'':evT T z=t) (h4:evT T a=s):[x,y,z,a].map (evT T)=[v,u,t,s]:=by simp [h,h',h'',h4]
end
end Go.Proofs.Yteilffoclpgijaa
namespace Go.Proofs.Yteilffoclpgijaa
set_option linter.unusedVariables false
open Go.RowKit
open Rep (rep)
class Flat (α : Type) extends Rep α where
 cells : α → List Value
 flat : ∀ {M cs x},rep M cs x↔cs=cells x
instance:Flat Int:={ (inferInstance:Rep Int) with cells:=fun x=>[.int .i64 x],flat:=Iff.rfl }
instance:Flat Byt:={ (inferInstance:Rep Byt) with cells:=fun x=>[.int .u8 x.val],flat:=Iff.rfl }
instance instRepGOp:Rep GOp where
 k:=3
 bytes:=24
 rep _ cs x:=cs=qim x
 len h:=by rw [h];rfl
 mono _ h:=h
 one h:=by rw [h];simp [qim,Value.oneCell']
instance:Flat GOp:={ instRepGOp with cells:=qim,flat:=Iff.rfl }
theorem qjk {α : Type} [Flat α] (x : α):(Flat.cells x).length=Rep.k α := Rep.len (M:=fun _=>none) (Flat.flat.2 rfl)
theorem qfi {α : Type} [Rep α] {M:Mm} {v:Value} {l:List α} (h:repL M v l) : ∃ a cap,v = .slice a l.length cap∧l.length≤cap∧(a=none→cap=0)∧l.length*Rep.bytes α ≤ 140737488351232 ∧
  ∃ css:List (List Value),css.length=l.length∧(∀ (i:Nat) ws x,css[i]? = some ws→l[i]? = some x→rep M ws x)∧(l≠[] → ∃ b off p,a=some ⟨b,off,none⟩∧M b=some p∧off+l.length*Rep.k α ≤ p.length∧css.flatten=sl p off (l.length*Rep.k α)):=by
 obtain ⟨a,cap,rfl,h1,h2,h3,h4⟩:=h
 refine ⟨a,cap,rfl,h1,h2,h3,?_⟩
 cases l with
 | nil=>exact ⟨[],rfl,by simp,fun h=>absurd rfl h⟩
 | cons x0 t =>
  obtain ⟨b,off,p,rfl,hb,hle0,hr0⟩:=h4 0 x0 rfl
  have hall : ∀ (i:Nat) x,(x0::t)[i]? = some x→off+i*Rep.k α + Rep.k α ≤ p.length∧rep M (sl p (off+i*Rep.k α) (Rep.k α)) x:=by
   intro i x hx
   obtain ⟨b',off',p',he,hb',hle,hr⟩:=h4 i x hx
   simp only [Option.some.injEq,Addr.mk.injEq,and_true] at he
   obtain ⟨rfl,rfl⟩:=he
   rw [hb] at hb'
   cases hb'
   exact ⟨hle,hr⟩
  generalize hL:(x0::t)=L at *
  have hne:0<L.length:=by rw [← hL];simp
  refine ⟨(List.range L.length).map fun i=>sl p (off+i*Rep.k α) (Rep.k α),by simp,?_,fun _=>⟨b,off,p,rfl,hb,?_,?_⟩⟩
  ·intro i ws x hws hx
   rw [List.getElem?_map] at hws
   have hi:=(List.getElem?_eq_some_iff.1 hx).1
   rw [List.getElem?_range hi] at hws
   simp only [Option.map_some,Option.some.injEq] at hws
   subst hws
   exact (hall i x hx).2
  ·have:=(hall (L.length-1) L[L.length-1] (by simp)).1
   have e:L.length*Rep.k α = (L.length-1)*Rep.k α + Rep.k α := by
    rw [← Nat.succ_mul];congr 1;omega
   omega
  ·have key : ∀ n,n≤L.length→((List.range n).map fun i=>sl p (off+i*Rep.k α) (Rep.k α)).flatten=sl p off (n*Rep.k α):=by
    intro n
    induction n with
    | zero=>intro _;simp [sl]
    | succ n ih =>
     intro hn
     rw [List.range_succ,List.map_append,List.flatten_append,ih (by omega)]
     simp only [List.map_cons,List.map_nil,List.flatten_cons,List.flatten_nil,List.append_nil]
     rw [qxc,Nat.succ_mul]
   exact key L.length (Nat.le_refl _)
theorem qoj {M:Mm} {w:World} (hA:Agree M w) {b:Nat} {p:List Value} (hb:M b=some p) {j:Nat} {u:Value} (hj:p[j]? = some u):w.cell? ⟨b,j,none⟩=some u:=by
 obtain ⟨arr,t,fr,h3,r,hr⟩:=hA b p hb
 simp only [World.cell?,h3]
 rw [← Array.getElem?_toList,← hr,List.getElem?_append_left (List.getElem?_eq_some_iff.1 hj).1]
 simpa using hj
theorem repL.row {α : Type} [Flat α] {M:Mm} {w:World} (hA:Agree M w) {v:Value} {l:List α} (h:repL M v l):RRow (fun b=>(M b).isSome) w v (Rep.k α) (Rep.bytes α) l.length (l.flatMap Flat.cells):=by
 obtain ⟨a,cap,rfl,h1,h2,h3,css,h4,h5,h6⟩:=qfi h
 refine ⟨a,cap,rfl,h1,h2,qvp (fun x=>qjk x) l,h3,fun i u hu => ?_⟩
 have hne:l≠[]:=by rintro rfl;simp at hu
 obtain ⟨b,off,p,rfl,hb,hle,hc⟩:=h6 hne
 refine ⟨b,off,rfl,by show (M b).isSome=true;rw [hb];rfl,qoj hA hb ?_⟩
 have hcs:css=l.map Flat.cells:=by
  refine List.ext_getElem? fun i => ?_
  rw [List.getElem?_map]
  cases hx:l[i]? with
  | none=>rw [List.getElem?_eq_none_iff] at hx;exact List.getElem?_eq_none (by omega)
  | some x =>
   have hi:i<css.length:=by rw [h4];exact (List.getElem?_eq_some_iff.1 hx).1
   have:=h5 i css[i] x (by simp) hx
   rw [Flat.flat] at this
   rw [List.getElem?_eq_getElem hi,this]
   rfl
 rw [hcs,← List.flatMap_def] at hc
 rw [hc] at hu
 rcases Nat.lt_or_ge i (l.length*Rep.k α) with hi | hi
 ·rw [qe1 _ _ _ _ hi] at hu;exact hu
 ·rw [qbw _ _ _ _ hi] at hu;cases hu
theorem qxi (l:List Int):(l.flatMap (Flat.cells:Int→List Value))=l.map (Value.int .i64):=by
 induction l with
 | nil=>rfl
 | cons x t ih=>simp only [List.flatMap_cons,List.map_cons];rw [ih];rfl
theorem repL.ints {M:Mm} {w:World} (hA:Agree M w) {v:Value} {l:List Int} (h:repL M v l):RInts (fun b=>(M b).isSome) w v l:=by
 have:=h.row hA
 have e:(l.flatMap (Flat.cells:Int→List Value))=l.map (Value.int .i64):=qxi l
 unfold RInts
 rw [← e]
 exact this
theorem repL.ops {M:Mm} {w:World} (hA:Agree M w) {v:Value} {l:List GOp} (h:repL M v l):ROps (fun b=>(M b).isSome) w v l:=h.row hA
theorem qs7 {α : Type} [Flat α] {S:Nat→Prop} {M:Mm} {w:World} {v:Value} {l:List α} (h:RRow S w v (Rep.k α) (Rep.bytes α) l.length (l.flatMap Flat.cells)) (hk:0<Rep.k α)
  (hM : ∀ b arr t fr,S b→w.heap[b]? = some (.cells arr t fr)→M b=some arr.toList):repL M v l:=by
 obtain ⟨a,cap,rfl,h1,h2,h3,h4,h5⟩:=h
 refine ⟨a,cap,rfl,h1,h2,h4,fun i x hx => ?_⟩
 have hi:=(List.getElem?_eq_some_iff.1 hx).1
 have hcell : ∀ j,j<Rep.k α → (l.flatMap Flat.cells)[i*Rep.k α + j]? = (Flat.cells x)[j]? := fun j hj=>qjj (fun x=>qjk x) l i x j hx hj
 have h0 : ∃ u,(Flat.cells x)[0]? = some u:=⟨(Flat.cells x)[0]'(by rw [qjk];exact hk),by simp⟩
 obtain ⟨u,hu⟩:=h0
 obtain ⟨b,off,rfl,hs,hc⟩:=h5 (i*Rep.k α + 0) u (by rw [hcell 0 hk];exact hu)
 have hblk : ∃ arr t fr,w.heap[b]? = some (.cells arr t fr):=by
  simp only [World.cell?] at hc
  split at hc
  ·rename_i arr t fr hh;exact ⟨arr,t,fr,hh⟩
  ·cases hc
 obtain ⟨arr,t,fr,hh⟩:=hblk
 have hget : ∀ j,j<Rep.k α → arr.toList[off+i*Rep.k α + j]? = (Flat.cells x)[j]? := by
  intro j hj
  have hjl:j<(Flat.cells x).length:=by rw [qjk];exact hj
  obtain ⟨b',off',he,_,hc'⟩:=h5 (i*Rep.k α + j) ((Flat.cells x)[j]) (by rw [hcell j hj];simp)
  simp only [Option.some.injEq,Addr.mk.injEq,and_true] at he
  obtain ⟨rfl,rfl⟩:=he
  simp only [World.cell?,hh] at hc'
  simp only [Option.isSome_none,Bool.false_eq_true,if_false] at hc'
  rw [Array.getElem?_toList,Nat.add_assoc,hc']
  simp
 refine ⟨b,off,arr.toList,rfl,hM b arr t fr hs hh,?_,?_⟩
 ·have:=hget (Rep.k α - 1) (by omega)
  have hx1 : ∃ u,(Flat.cells x)[Rep.k α - 1]? = some u:=⟨(Flat.cells x)[Rep.k α - 1]'(by rw [qjk];omega),by simp⟩
  obtain ⟨u1,hu1⟩:=hx1
  rw [hu1] at this
  have:=(List.getElem?_eq_some_iff.1 this).1
  omega
 ·rw [Flat.flat]
  refine qkn fun j => ?_
  by_cases hj:j<Rep.k α
  ·rw [qe1 _ _ _ _ hj,hget j hj]
  ·rw [qbw _ _ _ _ (by omega),List.getElem?_eq_none (by rw [qjk];omega)]
section
variable {P:Program} {n:Nat} {Q:Exit→Tm→World→Prop} {T:Tm} {w w0:World} {X:Nat→Prop} {M:Mm} {H:List Ent} {K:Tm→World→Prop} {dst:Option Tmp} {ty:TypeId} {pos:String} {af:Array Edge} {g:Option (Nat × Bool)}
theorem q0q (l:List Byt):(l.flatMap (Flat.cells:Byt→List Value))=(l.map Byt.val).map (Value.int .u8):=by
 induction l with
 | nil=>rfl
 | cons x t ih=>simp only [List.flatMap_cons,List.map_cons];rw [ih];rfl
theorem q7v {s d e:TypeId} {x:Operand} {v:Value} {l:List Byt} (hA:Agree M w) (hs:P.underlying s=some (.slice e)) (he:P.underlying e=some (.int .u8)) (hd:P.underlying d=some .string) (hx:evT T x=v) (hr:repL M v l) :
  YV P (· = w) T ⟨dst,.convert s d x,ty,pos,af,g⟩ (.string (strOfNums (l.map Byt.val))):=by
 intro w' hw
 rw [hw]
 have h:q0n (fun b=>(M b).isSome) w v (l.map Byt.val):=by
  have:=hr.row hA
  rw [q0q] at this
  unfold q0n
  rw [List.length_map]
  exact this
 have hrun:=qnq (P:=P) h hs he hd
 simp [execOp,hx,hrun]
theorem St.append {α : Type} [Rep α] {w':World} {v v':Value} {e:TypeId} {m:Nat} {xs news:List Value} {l1 l2:List α} {css:List (List Value)} (hSt:St w0 X M (.row v e (Rep.k α)::H) w) (h1:repL M v l1) (hk:0<Rep.k α)
  (hxs:w.ownsRow 0 e (Rep.k α) v l1.length xs) (hMx : ∀ g,v.ownBlock=some g→M g=some xs) (hm:l2.length=m) (hcl:css.length=l2.length) (hcs : ∀ (i:Nat) ws x,css[i]? = some ws→l2[i]? = some x→rep M ws x) (hn:news=css.flatten)
  (hown:w'.ownsRow 0 e (Rep.k α) v' (l1.length+m) (xs++news)) (hg:w.grownBy w' v.ownBlock) (hat:v'.ownBlock=v.ownBlock∨(v'.ownBlock=some w.heap.size ∧ ∀ k,k<w.heap.size→w'.heap[k]? = w.heap[k]?)) (hby:(l1.length+m)*Rep.bytes α ≤ 140737488351232) :
  ∃ M',Mm.ext w0.heap.size X M M'∧repL M' v' (l1++l2)∧St w0 X M' (.row v' e (Rep.k α)::H) w':=by
 have hnone:M w.heap.size=none:=hSt.none_at (Nat.le_refl _)
 have hapart:=List.pairwise_cons.1 hSt.apart
 have hHlt : ∀ f∈H,∀ b,f.blk=some b→b<w.heap.size∧v.ownBlock≠some b:=fun f hf b hb=>⟨Ent.lt (hSt.ents f (List.mem_cons_of_mem _ hf)) hb,fun hc=>hapart.1 f hf b hc hb⟩
 cases hv':v'.ownBlock with
 | none =>
  refine ⟨M,Mm.ext.refl _ _ _,?_,?_⟩
  ·obtain ⟨_,h | ⟨g,cap,cur,rfl,_⟩⟩:=hown
   ·obtain ⟨rfl,h0⟩:=h
    have e1:l1=[]:=List.length_eq_zero_iff.1 (by omega)
    have e2:l2=[]:=List.length_eq_zero_iff.1 (by omega)
    subst e1;subst e2
    exact qk3 M
   ·cases hv'
  ·have hvn:v.ownBlock=none:=by
    rcases hat with h | h
    ·rw [← h];exact hv'
    ·rw [hv'] at h;cases h.1
   refine ⟨hg.os.trans hSt.os,hg.tape.trans hSt.tape,hg.output.trans hSt.output,Nat.le_trans hSt.size hg.size,fun k hlt hno => ?_,fun b p hb => ?_,fun f hf => ?_,fun f hf b hb => ?_,?_⟩
   ·have hlt':=Nat.lt_of_lt_of_le hlt hSt.size
    rw [hg.block k hlt' (by rw [hvn];simp)]
    exact hSt.frame k hlt hno
   ·obtain ⟨cs,t,fr,e1,e2⟩:=hSt.agree b p hb
    exact ⟨cs,t,fr,(hg.block b (hSt.agree.lt hb) (by rw [hvn];simp)).trans e1,e2⟩
   ·rcases List.mem_cons.1 hf with rfl | hf
    ·exact ⟨_,_,hown,fun g hgb=>by rw [hv'] at hgb;cases hgb⟩
    ·refine Ent.kept (hSt.ents f (List.mem_cons_of_mem _ hf)) fun b hb=>⟨hg.block b (hHlt f hf b hb).1 (by rw [hvn];simp),rfl⟩
   ·rcases List.mem_cons.1 hf with rfl | hf
    ·have hb':v'.ownBlock=some b:=hb
     rw [hv'] at hb';cases hb'
    ·exact hSt.mine f (List.mem_cons_of_mem _ hf) b hb
   ·refine .cons (fun f _ b hb => ?_) hapart.2
    have hb':v'.ownBlock=some b:=hb
    rw [hv'] at hb';cases hb'
 | some g =>
  have hMg:M g=none∨M g=some xs:=by
   rcases hat with h | h
   ·exact .inr (hMx g (by rw [← h];exact hv'))
   ·rw [hv'] at h;cases h.1;exact .inl hnone
  have hle:M.le (M.put g (xs++news)):=fun b p hb=>by
   by_cases e:b=g
   ·subst e
    rcases hMg with h | h
    ·rw [h] at hb;cases hb
    ·rw [h] at hb;cases hb;exact ⟨_,Mm.put_same _ _ _,List.prefix_append _ _⟩
   ·exact ⟨p,by rw [Mm.put_other _ _ e];exact hb,List.prefix_refl _⟩
  have hfar : ∀ b,b<w.heap.size→some b≠v.ownBlock→b≠g:=fun b hlt hne he=>by
   subst he
   rcases hat with h | h
   ·exact hne (by rw [← h];exact hv'.symm)
   ·rw [hv'] at h;cases h.1;omega
  have hgB:X g∨w0.heap.size≤g:=by
   rcases hat with h | h
   ·exact hSt.mine _ List.mem_cons_self g (by rw [← hv',h];rfl)
   ·rw [hv'] at h;cases h.1;exact .inr hSt.size
  refine ⟨M.put g (xs++news),⟨hle,fun b hb hx=>Mm.put_other _ _ (fun e=>by subst e;rcases hgB with h | h;exact hx h;omega)⟩,?_,?_⟩
  ·obtain ⟨hxl,h | ⟨g',cap,cur,rfl,hgb,hh,hcap,hmx,hsz,htk⟩⟩:=hown
   ·obtain ⟨rfl,_⟩:=h;cases hv'
   ·cases hv'
    have hlen1:xs.length=l1.length*Rep.k α := hxs.1
    have hcl1 : ∀ ws∈css,ws.length=Rep.k α := by
     intro ws hws
     obtain ⟨j,hj⟩:=List.getElem?_of_mem hws
     have hjl:j<l2.length:=by rw [← hcl];exact (List.getElem?_eq_some_iff.1 hj).1
     exact Rep.len (hcs j ws l2[j] hj (by simp))
    obtain ⟨a,cp,hve,_,_,_,css1,hc1,hc2,hc3⟩:=qfi h1
    have hfl1:xs=css1.flatten:=by
     cases hl:l1 with
     | nil=>rw [hl] at hc1 hlen1;simp at hc1 hlen1;subst hc1;simpa using hlen1
     | cons x t =>
      obtain ⟨b,off,p,rfl,hb,hle2,hfl⟩:=hc3 (by rw [hl];simp)
      have hob:v.ownBlock=some b:=by rw [hve];rfl
      have:=hMx b hob
      rw [hb] at this
      cases this
      have ho:off=0:=by
       obtain ⟨_,h | ⟨g2,cap2,cur2,he2,_⟩⟩:=hxs
       ·rw [hve] at h;cases h.1
       ·rw [hve] at he2;cases he2;rfl
      subst ho
      rw [hfl,← hlen1,qqm]
    refine (show (Value.slice (some ⟨g',0,none⟩) (l1.length+m) cap) = .slice (some ⟨g',0,none⟩) (l1++l2).length cap from by rw [List.length_append,hm]) ▸ qkp (vs:=css1++css) (l:=l1++l2) ?_ (by simp [hc1,hcl]) (by rw [List.length_append,hm];exact hcap) (by rw [List.length_append,hm];exact hby) ?_
    ·rw [Mm.put_same,hfl1,hn,List.flatten_append]
    ·intro i ws x hws hx
     by_cases hi:i<l1.length
     ·rw [List.getElem?_append_left (by omega)] at hws
      rw [List.getElem?_append_left hi] at hx
      exact Rep.mono hle (hc2 i ws x hws hx)
     ·rw [List.getElem?_append_right (by omega),hc1] at hws
      rw [List.getElem?_append_right (by omega)] at hx
      exact Rep.mono hle (hcs _ ws x hws hx)
  ·refine ⟨hg.os.trans hSt.os,hg.tape.trans hSt.tape,hg.output.trans hSt.output,Nat.le_trans hSt.size hg.size,fun k hlt hno => ?_,fun b p hb => ?_,fun f hf => ?_,fun f hf b hb => ?_,?_⟩
   ·have hlt':=Nat.lt_of_lt_of_le hlt hSt.size
    have hvk:some k≠v.ownBlock:=fun h=>by
     rcases hSt.mine _ List.mem_cons_self k h.symm with hx | hx
     ·exact hno hx
     ·omega
    rw [hg.block k hlt' hvk]
    exact hSt.frame k hlt hno
   ·by_cases e:b=g
    ·subst e
     rw [Mm.put_same] at hb
     cases hb
     obtain ⟨hxl,h | ⟨g',cap,cur,rfl,hgb,hh,hcap,hmx,hsz,htk⟩⟩:=hown
     ·obtain ⟨rfl,_⟩:=h;cases hv'
     ·cases hv'
      exact ⟨cur,_,_,hh,by rw [← htk];exact List.take_prefix _ _⟩
    ·rw [Mm.put_other _ _ e] at hb
     obtain ⟨cs,t,fr,e1,e2⟩:=hSt.agree b p hb
     by_cases hbv:some b=v.ownBlock
     ·
      have hx:=hMx b hbv.symm
      rw [hb] at hx
      cases hx
      obtain ⟨hl2,h2 | ⟨g2,cap2,cur2,rfl,hb2,hh2,hcap2,hmx2,hsz2,htk2⟩⟩:=hxs
      ·obtain ⟨rfl,_⟩:=h2;cases hbv
      ·cases hbv
       rcases hat with h | h
       ·rw [hv'] at h;cases h;exact absurd rfl e
       ·exact ⟨cs,t,fr,(h.2 _ (hSt.agree.lt hb)).trans e1,e2⟩
     ·exact ⟨cs,t,fr,(hg.block b (hSt.agree.lt hb) hbv).trans e1,e2⟩
   ·rcases List.mem_cons.1 hf with rfl | hf
    ·exact ⟨_,_,hown,fun g' hgb=>by rw [hv'] at hgb;cases hgb;exact Mm.put_same _ _ _⟩
    ·have hne:=hHlt f hf
     exact Ent.kept (hSt.ents f (List.mem_cons_of_mem _ hf)) fun b hb=>⟨hg.block b (hne b hb).1 (fun h=>(hne b hb).2 h.symm),Mm.put_other _ _ (hfar b (hne b hb).1 (fun h=>(hne b hb).2 h.symm))⟩
   ·rcases List.mem_cons.1 hf with rfl | hf
    ·have hb':v'.ownBlock=some b:=hb
     rw [hv'] at hb';cases hb';exact hgB
    ·exact hSt.mine f (List.mem_cons_of_mem _ hf) b hb
   ·refine .cons (fun f hf b hb hb' => ?_) hapart.2
    have h2:v'.ownBlock=some b:=hb
    rw [hv'] at h2
    cases h2
    exact hfar g (hHlt f hf g hb').1 (fun h=>(hHlt f hf g hb').2 h.symm) rfl
theorem qqr {base:Nat} {t ty e:TypeId} {i:TypeInfo} {z:Value} {size bytes:Nat} (ht:P.underlying t=some (.slice e)) (hi:P.info? e=some i) (hz:i.zero=some z)
  (hsize:i.size=size) (hby:i.bytes=bytes) (hzs:z.cells.size=size) (hsz:0<size)
  {v:Value} {n:Nat} {xs:List Value} (hown:w.ownsRow base e size v n xs)
  {a:Addr} {m c:Nat} {news:List Value} (hl:news.length=m*size) (hnews : ∀ (j:Nat) u,news[j]? = some u→w.cell? (a.add j)=some u) (h1 : ∀ u∈news,u.oneCell'=true)
  (h63:n+m≤maxLen) (hbytes:(n+m)*bytes≤140737488355328) (hbase:base≤w.heap.size) :
  ∃ v' w',(Builtin.append_ #[t,t] ty #[v,.slice (some a) m c]).run P w = .ok v' w'∧w'.ownsRow base e size v' (n+m) (xs++news)∧w.grownBy w' v.ownBlock ∧
   (v'.ownBlock=v.ownBlock∨(v'.ownBlock=some w.heap.size ∧ ∀ k,k<w.heap.size→w'.heap[k]? = w.heap[k]?)):=by
 obtain ⟨v',w',hr,ho,hg,_,hat⟩:=run_append_own_at (P:=P) w base t ty e i z size bytes ht hi hz hsize hby hzs hsz v n xs hown a m c news hl hnews h1 h63 hbytes hbase
 refine ⟨v',w',hr,ho,hg,?_⟩
 rcases hat with h | h
 ·exact .inl h
 ·obtain ⟨hxl,⟨rfl,rfl⟩ | ⟨g,cap,cur,rfl,hbg,hh,hnc,hcm,hcs,htake⟩⟩:=hown
  ·exact .inr ⟨h,fun k hk=>hg.block k hk (by simp [Value.ownBlock])⟩
  ·subst hsize
   subst hby
   by_cases hroom:n+m≤cap
   ·have hfit:n*i.size+news.length≤cur.size:=by rw [hl,hcs,← Nat.add_mul];exact Nat.mul_le_mul_right _ hroom
    have hr2:=run_append_room (P:=P) w t ty e i ht hi g n cap cur hh a m c news hl hnews h1 hroom hfit
    rw [hr2] at hr
    cases hr
    exact .inl rfl
   ·have hown':w.ownsRow base e i.size (.slice (some ⟨g,0,none⟩) n cap) n xs:=⟨hxl,.inr ⟨g,cap,cur,rfl,hbg,hh,hnc,hcm,hcs,htake⟩⟩
    have holds : ∀ (j:Nat) u,xs[j]? = some u→w.cell? ((⟨g,0,none⟩:Addr).add j)=some u:=hown'.cells (g:=g) rfl
    have hsmall:n+m≤9223372036854775807:=by simp only [maxLen] at h63;omega
    have hr2:=run_append_grow (P:=P) w t ty e i z ht hi hz ⟨g,0,none⟩ n cap xs hxl holds a m c news hl hnews (by omega) (by omega) (growslice_fits (by omega) hbytes)
    rw [hr2] at hr
    cases hr
    exact .inr ⟨rfl,fun k hk=>Below.heap_alloc w.drew _ k hk⟩
def TP (P:Program) (t e:TypeId) (k bytes:Nat):Prop:=P.underlying t=some (.slice e) ∧ ∃ i z,P.info? e=some i∧i.zero=some z∧i.size=k∧i.bytes=bytes∧z.cells.size=k∧0<k∧0<bytes
theorem qrz {α : Type} [Rep α] {j:Nat} {t ty e:TypeId} {v v2:Value} {l1 l2:List α} (ht:TP P t e (Rep.k α) (Rep.bytes α)) (hSt:St w0 X M H w) (hj:H[j]? = some (.row v e (Rep.k α)))
  (h1:repL M v l1) (h2:repL M v2 l2) (hb:(l1.length+l2.length)*Rep.bytes α ≤ 140737488351232) :
  ∃ v' w' M',(Builtin.append_ #[t,t] ty #[v,v2]).run P w = .ok v' w'∧Mm.ext w0.heap.size X M M'∧repL M' v' (l1++l2)∧St w0 X M' (H.set j (.row v' e (Rep.k α))) w':=by
 obtain ⟨hu,i,z,hi,hz,hsize,hby,hzs,hk,hbp⟩:=ht
 have hF:=hSt.perm (qfs hj)
 obtain ⟨n,xs,hown,hM⟩:=hF.ents _ List.mem_cons_self
 obtain ⟨a1,cap1,hv1,_⟩:=qqp h1
 have hn:n=l1.length:=by
  obtain ⟨_,h | ⟨g,cap,cur,h,_⟩⟩:=hown
  ·rw [hv1] at h;obtain ⟨h,h0⟩:=h;simp only [Value.slice.injEq] at h;omega
  ·rw [hv1] at h;simp only [Value.slice.injEq] at h;exact h.2.1.symm
 subst hn
 obtain ⟨a2,cap2,hv2,hc2,hnil,hb2,css,hcl,hcs,hne⟩:=qfi h2
 have hcsl : ∀ ws∈css,ws.length=Rep.k α := by
  intro ws hws
  obtain ⟨q,hq⟩:=List.getElem?_of_mem hws
  have hql:q<l2.length:=by rw [← hcl];exact (List.getElem?_eq_some_iff.1 hq).1
  exact Rep.len (hcs q ws l2[q] hq (by simp))
 cases a2 with
 | none =>
  have:cap2=0:=hnil rfl
  subst this
  have e0:l2=[]:=List.length_eq_zero_iff.1 (by omega)
  subst e0
  subst hv2
  have hr:=run_append_owned_none (P:=P) (w:=w) 0 t ty e i (Rep.k α) hu hi v _ xs hown
  exact ⟨v,w,M,hr,Mm.ext.refl _ _ _,by simpa using h1,by
   have:=hF.perm (qgo (.row v e (Rep.k α)) hj)
   exact this⟩
 | some ad =>
  subst hv2
  have hlen:css.flatten.length=l2.length*Rep.k α := by
   by_cases hl:l2=[]
   ·subst hl;simp at hcl;subst hcl;simp
   ·obtain ⟨b,off,p,_,_,hle,hfl⟩:=hne hl
    rw [hfl,qag hle]
  have hnews : ∀ (j:Nat) u,css.flatten[j]? = some u→w.cell? (ad.add j)=some u:=by
   intro q u hq
   have hl:l2≠[]:=by rintro rfl;simp at hcl;subst hcl;simp at hq
   obtain ⟨b,off,p,he,hMb,hle,hfl⟩:=hne hl
   cases he
   rw [hfl] at hq
   rw [Addr.add_mid]
   have hql:q<l2.length*Rep.k α := by
    rw [← hlen,hfl];exact (List.getElem?_eq_some_iff.1 hq).1
   rw [qe1 _ _ _ _ hql] at hq
   exact qoj hSt.agree hMb hq
  have hone : ∀ u∈css.flatten,u.oneCell'=true:=by
   intro u hu
   obtain ⟨ws,hws,huw⟩:=List.mem_flatten.1 hu
   obtain ⟨q,hq⟩:=List.getElem?_of_mem hws
   have hql:q<l2.length:=by rw [← hcl];exact (List.getElem?_eq_some_iff.1 hq).1
   exact Rep.one (hcs q ws l2[q] hq (by simp)) u huw
  have hle1:l1.length+l2.length≤(l1.length+l2.length)*Rep.bytes α := Nat.le_mul_of_pos_right _ hbp
  obtain ⟨v',w',hr,ho,hg,hat⟩:=qqr (P:=P) (ty:=ty) hu hi hz hsize hby hzs hk hown (c:=cap2) hlen hnews hone (by unfold maxLen;omega) (by omega) (Nat.zero_le _)
  obtain ⟨M',hm,hrep,hst⟩:=hF.append h1 hk hown hM rfl hcl hcs rfl ho hg hat hb
  exact ⟨v',w',M',hr,hm,hrep,hst.perm (qgo _ hj)⟩
theorem zak {α : Type} [Rep α] {j:Nat} {t e:TypeId} {x y:Operand} {v v2:Value} {l1 l2:List α} (ht:TP P t e (Rep.k α) (Rep.bytes α)) (hSt:St w0 X M H w) (hj:H[j]? = some (.row v e (Rep.k α)))
  (hx:evT T x=v) (hy:evT T y=v2) (h1:repL M v l1) (h2:repL M v2 l2) (hb:(l1.length+l2.length)*Rep.bytes α ≤ 140737488351232)
  (k : ∀ v' M' w',Mm.ext w0.heap.size X M M'→repL M' v' (l1++l2)→St w0 X M' (H.set j (.row v' e (Rep.k α))) w'→K (qmg T dst v') w'):OW P n Q ⟨dst,.call ⟨.builtin .append,#[x,y],#[t,t]⟩,ty,pos,af,g⟩ T w K:=by
 obtain ⟨v',w',M',hr,hm,hrep,hst⟩:=qrz (P:=P) (ty:=ty) ht hSt hj h1 h2 hb
 refine OW.of_run (v:=v') (w':=w') ?_ (k v' M' w' hm hrep hst)
 simp [execOp,resolve,invoke,builtin,hx,hy,hr]
theorem St.nilRow (hSt:St w0 X M H w) (e:TypeId) (k:Nat):St w0 X M (.row (.slice none 0 0) e k::H) w:=by
 refine ⟨hSt.os,hSt.tape,hSt.output,hSt.size,hSt.frame,hSt.agree,fun f hf => ?_,fun f hf b hb => ?_,.cons (fun f _ b hb=>by cases hb) hSt.apart⟩
 rcases List.mem_cons.1 hf with rfl | hf
 ·exact ⟨0,[],⟨by simp,.inl ⟨rfl,rfl⟩⟩,fun g hg=>by cases hg⟩
 ·exact hSt.ents f hf
 ·rcases List.mem_cons.1 hf with rfl | hf
  ·cases hb
  ·exact hSt.mine f hf b hb
end
end Go.Proofs.Yteilffoclpgijaa
namespace Go.Proofs.Yteilffoclpgijaa
set_option linter.unusedVariables false
open Go.RowKit
open Rep (rep)
theorem q5u {α β : Type} {o:Option α} {f : α → Option β} {r : β} (h:o.bind f=some r) : ∃ x,o=some x∧f x=some r:=Option.bind_eq_some_iff.1 h
theorem q3r {α : Type} {c:Bool} {a b:Option α} {r : α} (h:(bif c then a else b)=some r) (hc:c=true):a=some r:=by subst hc;exact h
theorem q3s {α : Type} {c:Bool} {a b:Option α} {r : α} (h:(bif c then a else b)=some r) (hc:c=false):b=some r:=by subst hc;exact h
def app {α : Type} [Rep α] (a b:List α):Option (List α):=if (a.length+b.length)*Rep.bytes α ≤ 140737488351232 then some (a++b) else none
theorem q3t {α : Type} [Rep α] {a b c:List α} (h:app a b=some c):(a.length+b.length)*Rep.bytes α ≤ 140737488351232∧c=a++b:=by
 unfold app at h
 split at h
 ·rename_i hk;exact ⟨hk,(Option.some.inj h).symm⟩
 ·cases h
def cat (a b:ByteArray):Option ByteArray:=if a.size+b.size≤140737488351232 then some (a++b) else none
theorem qxj {a b c:ByteArray} (h:cat a b=some c):a.size+b.size≤140737488351232∧c=a++b:=by
 unfold cat at h
 split at h
 ·rename_i hk;exact ⟨hk,(Option.some.inj h).symm⟩
 ·cases h
def qyr (s:ByteArray) (lo hi:Option Int):Option ByteArray:=(qgm s.size lo hi).map fun p=>s.extract p.1 p.2
def qqs {α : Type} (l:List α) (lo hi:Option Int):Option (List α):=(qgm l.length lo hi).map fun p=>(l.take p.2).drop p.1
def q3u (P:Program) (fn:Func) (R:Ending→World→Prop):Exit→Tm→World→Prop:=fun e T w =>
 match e with
 | .normal | .ret => ∀ tmps:Array Value,(∀ k,tmps.getD k undef=T k) → ∃ v,(results fn tmps).run P w = .ok v w∧R (.returned v) w
 | _=>False
theorem q0r (vs:List Value) (m k:Nat):(vs.toArray++Array.replicate m undef).getD k undef=vs.getD k undef:=by
 rw [Array.getD_eq_getD_getElem?,List.getD_eq_getElem?_getD,Array.getElem?_append]
 by_cases h:k<vs.length
 ·rw [if_pos (by simpa using h)];simp
 ·rw [if_neg (by simpa using h),Array.getElem?_replicate,List.getElem?_eq_none (by omega)]
  split<;>rfl
theorem q5v {P:Program} {f:FuncId} {fn:Func} {c:Code} {vs:List Value} {w:World} {R:Ending→World→Prop} (hf:P.funcs[f]? = some fn) (hb:fn.body=some c) (n:Nat) (hn:fn.ntmps=n) (hv:Nat.ble vs.length n=true) (hok:qfh n c=true)
  (h : ∀ T:Tm,(∀ k,T k=vs.getD k undef)→W P n c (q3u P fn R) T w):Calls P f vs.toArray w R:=by
 subst hn
 refine qyp hf hb (by simpa using Nat.le_of_ble_eq_true hv) hok fun T hT => ?_
 refine q0e (fun e T w hq => ?_) (h T fun k=>(hT k).trans (q0r _ _ _))
 cases e<;>exact hq
section
variable {P:Program} {fn:Func} {R:Ending→World→Prop} {T:Tm} {w w0:World} {X:Nat→Prop} {M:Mm} {H:List Ent}
theorem qxk (h:q3u P fn R .ret T w):q3u P fn R .normal T w:=h
def q66 (tmps:Array Value):ResultVar→Sem Value
 | .tmp t=>pure (tmps.getD t undef)
 | .cell a t=>do loadVar t (← asAddr (tmps.getD a undef))
def q0s (P:Program) (w:World) (tmps:Array Value):List ResultVar→List Value→Prop
 | [],[]=>True
 | r::rs,v::vs=>(q66 tmps r).run P w = .ok v w∧q0s P w tmps rs vs
 | _,_=>False
def q7w:List Value→Value
 | [v]=>v
 | vs => .tuple vs.toArray
theorem qqt {tmps:Array Value} : ∀ {rs:List ResultVar} {vs:List Value},q0s P w tmps rs vs→(rs.mapM (q66 tmps)).run P w = .ok vs w
 | [],[],_=>by simp
 | r::rs,v::vs,h=>by
  obtain ⟨h1,h2⟩:=h
  have:=qqt h2
  simp only [List.mapM_cons,Sem.run_bind,h1,Result.andThen,this]
  rfl
 | [],_::_,h=>h.elim
 | _::_,[],h=>h.elim
theorem qei {tmps:Array Value} {rs:List ResultVar} {vs:List Value} (hr:fn.results=rs.toArray) (h:q0s P w tmps rs vs):(results fn tmps).run P w = .ok (q7w vs) w:=by
 have hm:(fn.results.mapM (q66 tmps)).run P w = .ok vs.toArray w:=by
  rw [hr,Array.mapM_eq_mapM_toList,Sem.run_map,qqt h]
  rfl
 have e:results fn tmps=(do let vs ← fn.results.mapM (q66 tmps);pure (if h:vs.size=1 then vs[0] else .tuple vs)):=by
  unfold results
  congr 1
 rw [e,Sem.run_bind,hm]
 rcases vs with _ | ⟨v,_ | ⟨u,t⟩⟩<;>simp [q7w,Result.andThen]
theorem qvr {t:TypeId} {v:Value} {b:Nat} {cs:List Value} {t':TypeId} (hv:v = .pointer (some ⟨b,0,none⟩)) (ht:TA P t cs.length) (hSt:St w0 X M H w) (j:Nat) (hj:H[j]? = some (.box b cs t')):(do loadVar t (← asAddr v):Sem Value).run P w = .ok (.agg cs.toArray) w:=by
 subst hv
 obtain ⟨d,h1,h2,h5⟩:=ht
 have hbx:=(hSt.ents _ (List.mem_of_getElem? hj)).1
 have:=run_loadVar_mid (P:=P) w b 0 t cs d (by have:=qqo (n:=cs.length) (off:=0) hbx (List.prefix_refl _);rwa [qqm] at this) h1 h2 h5
 simp [asAddr,this]
theorem qqu {tmps:Array Value} (hT : ∀ k,tmps.getD k undef=T k) {r:Nat} {v:Value} (h:T r=v):(q66 tmps (.tmp r)).run P w = .ok v w:=by
 show (pure (tmps.getD r undef):Sem Value).run P w=_
 rw [hT,h]
 simp
theorem q0t {tmps:Array Value} (hT : ∀ k,tmps.getD k undef=T k) {r b t j:Nat} {cs:List Value} {t':TypeId} (h1:T r = .pointer (some ⟨b,0,none⟩)) (ht:TA P t cs.length) (hSt:St w0 X M H w) (hj:H[j]? = some (.box b cs t')):(q66 tmps (.cell r t)).run P w = .ok (.agg cs.toArray) w :=
 qvr (P:=P) ((hT r).trans h1) ht hSt j hj
theorem R_t1 {r:Nat} {v:Value} (hr:fn.results = #[.tmp r]) (h1:T r=v) (h:R (.returned v) w):q3u P fn R .ret T w :=
 fun _ hT=>⟨v,qei (rs:=[.tmp r]) (vs:=[v]) hr ⟨qqu hT h1,trivial⟩,h⟩
theorem qz9 {r s:Nat} {v u:Value} (hr:fn.results = #[.tmp r,.tmp s]) (h1:T r=v) (h2:T s=u) (h:R (.returned (.tuple #[v,u])) w):q3u P fn R .ret T w :=
 fun _ hT=>⟨_,qei (rs:=[.tmp r,.tmp s]) (vs:=[v,u]) hr ⟨qqu hT h1,qqu hT h2,trivial⟩,h⟩
theorem zal (hr:fn.results = #[]) (h:R (.returned (.tuple #[])) w):q3u P fn R .ret T w :=
 fun _ _=>⟨_,qei (rs:=[]) (vs:=[]) hr trivial,h⟩
section
variable {b t j:Nat} {cs:List Value} {t':TypeId} {r:Nat}
theorem R_c (hr:fn.results = #[.cell r t]) (h1:T r = .pointer (some ⟨b,0,none⟩)) (ht:TA P t cs.length) (hSt:St w0 X M H w) (hj:H[j]? = some (.box b cs t')) (h:R (.returned (.agg cs.toArray)) w):q3u P fn R .ret T w :=
 fun _ hT=>⟨_,qei (rs:=[.cell r t]) (vs:=[.agg cs.toArray]) hr ⟨q0t hT h1 ht hSt hj,trivial⟩,h⟩
theorem q45 {s:Nat} {u:Value} (hr:fn.results = #[.cell r t,.tmp s]) (h1:T r = .pointer (some ⟨b,0,none⟩)) (h2:T s=u) (ht:TA P t cs.length) (hSt:St w0 X M H w) (hj:H[j]? = some (.box b cs t')) (h:R (.returned (.tuple #[.agg cs.toArray,u])) w):q3u P fn R .ret T w :=
 fun _ hT=>⟨_,qei (rs:=[.cell r t,.tmp s]) (vs:=[.agg cs.toArray,u]) hr ⟨q0t hT h1 ht hSt hj,qqu hT h2,trivial⟩,h⟩
theorem zam {s q:Nat} {u x:Value} (hr:fn.results = #[.cell r t,.tmp s,.tmp q]) (h1:T r = .pointer (some ⟨b,0,none⟩)) (h2:T s=u) (h3:T q=x) (ht:TA P t cs.length) (hSt:St w0 X M H w) (hj:H[j]? = some (.box b cs t')) (h:R (.returned (.tuple #[.agg cs.toArray,u,x])) w):q3u P fn R .ret T w :=
 fun _ hT=>⟨_,qei (rs:=[.cell r t,.tmp s,.tmp q]) (vs:=[.agg cs.toArray,u,x]) hr ⟨q0t hT h1 ht hSt hj,qqu hT h2,qqu hT h3,trivial⟩,h⟩
end
def Gives (M:Mm) (w:World) (rv:Mm→Value→Prop):Ending→World→Prop:=fun e w' =>
 ∃ v M',e = .returned v∧rv M' v∧M.new M' w.heap.size∧Agree M' w'∧Kept w w'
theorem Gives.mk {rv:Mm→Value→Prop} {v:Value} {M':Mm} {w':World} (hSt:St w0 noX M' H w') (he:Mm.ext w0.heap.size noX M M') (hv:rv M' v):Gives M w0 rv (.returned v) w' :=
 ⟨v,M',rfl,hv,he.new,hSt.agree,hSt.kept⟩
theorem q5w {n:Nat} {Q:Exit→Tm→World→Prop} {K:Tm→World→Prop} {dst:Option Tmp} {ty:TypeId} {pos:String} {af:Array Edge} {g:Option (Nat × Bool)} {f:FuncId} {fn:Func} {c:Code} {args:List Operand} {ats:Array TypeId} {vs:List Value} {rv:Mm→Value→Prop} (hf:P.funcs[f]? = some fn) (hname:(fn.name == "runtime.NumGoroutine")=false) (hb:fn.body=some c)
  (ha:args.map (evT T)=vs) (hSt:St w0 X M H w) (hc:Calls P f vs.toArray w (Gives M w rv)) (hk : ∀ v M' w',Mm.ext w0.heap.size X M M'→rv M' v→St w0 X M' H w'→K (qmg T dst v) w'):OW P n Q ⟨dst,.call ⟨.value (.func f),args.toArray,ats⟩,ty,pos,af,g⟩ T w K :=
 qs6 hf hname hb ha hc fun e w' ⟨v,M',he,hv,hn,hA,hK⟩=>⟨v,he,hk v M' w' (hSt.ext hn) hv (hSt.call hK hn hA)⟩
end
end Go.Proofs.Yteilffoclpgijaa
namespace Go.Proofs.Yteilffoclpgijaa
set_option linter.unusedVariables false
open Go.RowKit
open Rep (rep)
theorem qau {cs:List Value} {u:Value} {o o' n m k:Nat} (hk:n+m=k) (ho:o+n=o') (h:u∈sl cs o k):u∈sl cs o n∨u∈sl cs o' m:=by
 subst hk
 subst ho
 rw [← qxc] at h
 exact List.mem_append.1 h
theorem qfz {cs:List Value} {u:Value} {k:Nat} (hl:cs.length=k) (h:u∈cs):u∈sl cs 0 k:=by subst hl;rwa [qqm]
section
variable {α : Type} [Rep α] {M:Mm} {cs ws:List Value}
theorem q3v {d : α} {k:Nat} (hk:Rep.k α = k) (h:rep M cs d):rep M (sl cs 0 k) d:=by
 have:=Rep.len h
 rw [hk] at this
 rw [← this,qqm]
 exact h
theorem q0u {d : α} {k:Nat} (hk:cs.length=k) (h:rep M (sl cs 0 k) d):rep M cs d:=by
 rw [← hk,qqm] at h
 exact h
theorem q3w {x : α} {q k:Nat} (hk:Rep.k α = k) (hx:rep M ws x) (hl:q+k≤cs.length):rep M (sl (pt cs q ws) q k) x:=by
 have:=Rep.len hx
 rw [hk] at this
 rw [qqn (by omega) this]
 exact hx
theorem q46 {x y : α} (h:rep M cs x) (e:some x=some y):rep M cs y:=by cases e;exact h
theorem vp {n k N o:Nat} {v:Vector α n} {j:Int} {x : α} (hk:Rep.k α = k) (hN:n*k=N) (h:rep M (sl cs o N) v) (hj:qa7 v j=some x):rep M (sl cs (o+j.toNat*k) k) x:=by
 subst hk
 subst hN
 obtain ⟨h0,h1,h2⟩:=qoh h hj
 have hle:=Nat.mul_le_mul_right (Rep.k α) (show j.toNat+1≤n by omega)
 rw [Nat.add_mul,Nat.one_mul] at hle
 rwa [qal _ hle] at h2
theorem vs {n k N o q:Nat} {v v':Vector α n} {j:Int} {x : α} (hk:Rep.k α = k) (hN:n*k=N) (h:rep M (sl cs o N) v) (hx:rep M (sl (pt cs q ws) (o+j.toNat*k) k) x) (hj:qe2 v j x=some v')
  (h1:o+j.toNat*k≤q) (h2:q+ws.length≤o+j.toNat*k+k) (hl:o+N≤cs.length):rep M (sl (pt cs q ws) o N) v':=by
 subst hk
 subst hN
 obtain ⟨h0,h3,rfl⟩:=qs4 hj
 obtain ⟨e1,e2,e3⟩:=h
 have hle:=Nat.mul_le_mul_right (Rep.k α) (show j.toNat+1≤n by omega)
 rw [Nat.add_mul,Nat.one_mul] at hle
 refine ⟨qag (by rw [qah (by omega)];exact hl),e2,fun i hi => ?_⟩
 have hi2:=Nat.mul_le_mul_right (Rep.k α) (show i+1≤n by omega)
 rw [Nat.add_mul,Nat.one_mul] at hi2
 rw [Vector.getElem_setIfInBounds,qal _ hi2]
 by_cases e:j.toNat=i
 ·subst e
  rw [if_pos rfl]
  exact hx
 ·have e4:=e3 i hi
  rw [qal _ hi2] at e4
  rw [if_neg e,qhk (by omega)]
  ·exact e4
  ·rcases Nat.lt_or_gt_of_ne e with hlt | hlt
   ·right
    have:=Nat.mul_le_mul_right (Rep.k α) (show j.toNat+1≤i by omega)
    rw [Nat.add_mul,Nat.one_mul] at this
    omega
   ·left
    have:=Nat.mul_le_mul_right (Rep.k α) (show i+1≤j.toNat by omega)
    rw [Nat.add_mul,Nat.one_mul] at this
    omega
theorem q7x {place:Nat→Option (Nat × Nat)}:qbj place cs []=some cs:=rfl
theorem q5x {place:Nat→Option (Nat × Nat)} {d : α} {i off size:Nat} {v:Value} {rest:List (Nat × Value)} {ds:List Value} (h:rep M cs d) (hp:place i=some (off,size)) (hc:v.cells.toList=ws) (hl:ws.length=size) (hle:off+size≤Rep.k α)
  (hr:qbj place (pt cs off ws) rest=some ds):qbj place cs ((i,v)::rest)=some ds:=by
 simp only [qbj,hp]
 have hsz:v.cells.size=size:=by rw [← hl,← hc];simp
 rw [if_pos ⟨hsz,by rw [Rep.len h];exact hle⟩,hc]
 exact hr
end
theorem qys {α : Type} [Rep α] {M:Mm} {v:Value} {l:List α} (h:repL M v l):v.cells.toList=[v]:=by
 obtain ⟨a,cap,rfl,_⟩:=h
 rfl
theorem q3x {α : Type} [Rep α] {M:Mm} {v:Value} {l:List α} (h:repL M v l):rep M [v] l:=⟨v,rfl,h⟩
class Zr (α : Type) [Rep α] where
 zd : α
 zc:List Value
 zr : ∀ {M},rep M zc zd
instance:Zr Int:=⟨0,[.int .i64 0],rfl⟩
instance:Zr Bool:=⟨false,[.bool false],rfl⟩
instance:Zr ByteArray:=⟨⟨#[]⟩,[.string ⟨#[]⟩],rfl,by decide⟩
instance {α : Type} [Rep α]:Zr (List α):=⟨[],[.slice none 0 0],_,rfl,qk3 _⟩
theorem qj3 {zs:List Value} {k:Nat} (hk:zs.length=k) : ∀ (n i:Nat),i<n→sl (List.replicate n zs).flatten (i*k) k=zs:=by
 intro n
 induction n with
 | zero=>intro i h;omega
 | succ n ih =>
  intro i hi
  simp only [List.replicate_succ,List.flatten_cons]
  cases i with
  | zero=>subst hk;simp [sl]
  | succ i =>
   have h2:=ih i (by omega)
   unfold sl at h2 ⊢
   rw [Nat.add_mul,Nat.one_mul,Nat.add_comm,← List.drop_drop,← hk,List.drop_left,hk]
   exact h2
theorem qdw {zs:List Value} : ∀ n,(List.replicate n zs).flatten.length=n*zs.length
 | 0=>by simp
 | n+1=>by
  rw [List.replicate_succ,List.flatten_cons,List.length_append,qdw n,Nat.add_mul,Nat.one_mul,Nat.add_comm]
class Pos (α : Type) [Rep α]:Prop where
 pos:0<Rep.k α
instance:Pos Int:=⟨Nat.one_pos⟩
instance:Pos Bool:=⟨Nat.one_pos⟩
instance:Pos ByteArray:=⟨Nat.one_pos⟩
instance {α : Type} [Rep α]:Pos (List α):=⟨Nat.one_pos⟩
instance {α : Type} [Rep α] [Zr α] [Pos α] {n:Nat}:Zr (Vector α n) where
 zd:=Vector.replicate n Zr.zd
 zc:=(List.replicate n (Zr.zc α)).flatten
 zr:=by
  intro M
  have hz:=Rep.len (Zr.zr (α := α) (M:=M))
  refine ⟨?_,.inl Pos.pos,fun i hi => ?_⟩
  ·rw [qdw,hz]
  ·rw [qj3 hz n i hi,Vector.getElem_replicate]
   exact Zr.zr
theorem qio {P:Program} {t:TypeId} {zs:List Value} (h:((P.info? t).bind (·.zero)).map (·.cells.toList)=some zs):TZ P t zs:=by
 cases hi:P.info? t with
 | none=>rw [hi] at h;cases h
 | some i =>
  rw [hi] at h
  cases hz:i.zero with
  | none=>simp [hz] at h
  | some z=>simp [hz] at h;exact ⟨i,z,hi,hz,h⟩
theorem q0v {P:Program} {t e:TypeId} {k b:Nat} (hu:P.underlying t=some (.slice e)) (h:(P.info? e).map (fun i=>(i.zero.map (·.cells.size),i.size,i.bytes))=some (some k,k,b)) (hk:0<k) (hb:0<b):TP P t e k b:=by
 cases hi:P.info? e with
 | none=>rw [hi] at h;cases h
 | some i =>
  rw [hi] at h
  simp only [Option.map_some,Option.some.injEq,Prod.mk.injEq] at h
  obtain ⟨h1,h2,h3⟩:=h
  cases hz:i.zero with
  | none=>simp [hz] at h1
  | some z=>simp [hz] at h1;exact ⟨hu,i,z,hi,hz,h2,h3,h1,hk,hb⟩
theorem qyt {P:Program} {t e:TypeId} {k b:Nat} (h:TP P t e k b):TL P t k:=by
 obtain ⟨hu,i,z,hi,hz,h2,h3,h1,hk,hb⟩:=h
 exact ⟨e,i,z,hu,hi,hz,h1,h2,hk⟩
def qvs (P:Program) (l:List Field):List (Nat × Option Nat):=l.map fun f=>(f.offset,(P.info? f.type).map (·.size))
theorem qok {P:Program} {t:TypeId} {zs:List Value} {fs:Array Field} {pl:List (Nat × Nat)} (hu:P.underlying t=some (.struct fs)) (hz:TZ P t zs) (h:qvs P fs.toList=pl.map (fun p=>(p.1,some p.2))):TB P t zs pl:=by
 obtain ⟨i,z,h1,h2,h3⟩:=hz
 refine ⟨fs,i,z,hu,h1,h2,h3,?_,?_⟩
 ·have:=congrArg (List.map Prod.fst) h
  simpa [qvs,List.map_map,Function.comp_def] using this
 ·intro j f hj
  have:=congrArg (fun l:List (Nat × Option Nat)=>l[j]?) h
  simp only [qvs,List.getElem?_map,hj,Option.map_some] at this
  cases hp:pl[j]? with
  | none=>rw [hp] at this;cases this
  | some p =>
   rw [hp] at this
   simp only [Option.map_some,Option.some.injEq,Prod.mk.injEq] at this
   rw [this.2]
   rfl
section
variable {P:Program} {n:Nat} {Q:Exit→Tm→World→Prop} {T:Tm} {w w0:World} {X:Nat→Prop} {M:Mm} {H:List Ent} {ops:Array Oper}
theorem q5y {next:Tm→World→Prop} (h:next T w):qs1 next Q .normal T w:=h
theorem q7y {id:Nat} (h:Q .normal T w):q65 id Q .normal T w:=h
theorem q5z {next:Tm→World→Prop} {id:Nat} (h:Q (.exit id) T w):qs1 next Q (.exit id) T w:=h
theorem q47 {id id':Nat} (hn:Nat.beq id' id=false) (h:Q (.exit id') T w):q65 id Q (.exit id') T w:=by show (bif Nat.beq id' id then _ else _);rw [hn];exact h
theorem q7z {id:Nat} (h:Q .normal T w):q65 id Q (.exit id) T w:=by show (bif Nat.beq id id then _ else _);rw [Nat.beq_refl];exact h
theorem q50 {next:Tm→World→Prop} (h:Q .ret T w):qs1 next Q .ret T w:=h
theorem q70 {id:Nat} (h:Q .ret T w):q65 id Q .ret T w:=h
theorem q71 {x y:Code} (J:Tm→World→Prop) (h:W P n x (qs1 J Q) T w) (hJ : ∀ T w,J T w→W P n y Q T w):W P n (.seq x y) Q T w :=
 q7g (q0e (fun e T w hq=>by cases e<;>first | exact hJ _ _ hq | exact hq) h)
theorem St.dropB {b:Nat} {cs:List Value} {t:TypeId} (h:St w0 X M (.box b cs t::H) w) (_:w0.heap.size≤b):St w0 X M H w:=h.drop
theorem evs {x:Operand} {i:Int} (h:evT T x = .int .i64 i):evI T (some x) (some i):=h
theorem evn:evI T none none:=trivial
def nonneg (b:Int):Option Unit:=if 0≤b then some () else none
theorem qvt {b:Int} {u:Unit} (h:nonneg b=some u):0≤b:=by
 unfold nonneg at h
 split at h
 ·assumption
 ·cases h
def q3k (s:ByteArray):Option Unit:=if s.size≤140737488351232 then some () else none
theorem q0w {s:ByteArray} {u:Unit} (h:q3k s=some u):s.size≤140737488351232:=by
 unfold q3k at h
 split at h
 ·assumption
 ·cases h
theorem q51 {s:ByteArray} (h:s.size≤140737488351232):rep M [Value.string s] s:=⟨rfl,h⟩
theorem qol {x y:Operand} {t u:TypeId} {e:TypeId} {a:Addr} {S:World→Prop} {dst:Option Tmp} {ty:TypeId} {pos:String} {af:Array Edge} {g:Option (Nat × Bool)} (hx:evT T x = .pointer (some a)) (hy:evT T y = .pointer none) (ht:P.underlying t=some (.pointer e)):YV P S T ⟨dst,.binOp .eql t x y u,ty,pos,af,g⟩ (.bool false):=by
 intro w _
 have h1:(Op.equal t (.pointer (some a)) (.pointer none)).run P w = .ok false w:=by
  have:Op.equal t (.pointer (some a)) (.pointer none)=Op.equalIn (9999+1) t (.pointer (some a)) (.pointer none):=rfl
  rw [this]
  unfold Op.equalIn
  simp [Sem.run_bind,run_underlying ht w]
 have h2:(eqGuard .eql t x y (.pointer (some a)) (.pointer none)).run P w = .ok () w:=by
  unfold eqGuard
  simp
 simp [execOp,hx,hy,binOp,Sem.run_bind,h1,h2]
def inR (j n:Int):Option Unit:=if 0≤j∧j<n then some () else none
theorem q3y {j n:Int} {u:Unit} (h:inR j n=some u):0≤j∧j<n:=by
 unfold inR at h
 split at h
 ·assumption
 ·cases h
theorem bt {c:Bool} {x:Value} (h:c=true) (g:x=Value.bool c):x = .bool true:=by subst h;exact g
theorem bf {c:Bool} {x:Value} (h:c=false) (g:x=Value.bool c):x = .bool false:=by subst h;exact g
theorem tr2 {x v u:Value} (h':v=u) (h:x=v):x=u:=h.trans h'
theorem bp0:([]:List (Nat × Operand)).map (fun p=>(p.1,evT T p.2))=[]:=rfl
theorem bpc {i:Nat} {x:Operand} {v:Value} {ps:List (Nat × Operand)} {vs:List (Nat × Value)} (h:evT T x=v) (hr:ps.map (fun p=>(p.1,evT T p.2))=vs):((i,x)::ps).map (fun p=>(p.1,evT T p.2))=(i,v)::vs:=by
 rw [List.map_cons,h,hr]
theorem br0 {α : Type} [Rep α] : ∀ (i:Nat) v (x : α),([]:List Value)[i]? = some v→([]:List α)[i]? = some x→rep M v.cells.toList x:=fun i v x h=>by simp at h
theorem brc {α : Type} [Rep α] {v0:Value} {x0 : α} {vs:List Value} {l:List α} (h:rep M v0.cells.toList x0) (hr : ∀ (i:Nat) v (x : α),vs[i]? = some v→l[i]? = some x→rep M v.cells.toList x) :
  ∀ (i:Nat) v (x : α),(v0::vs)[i]? = some v→(x0::l)[i]? = some x→rep M v.cells.toList x
 | 0,v,x,hv,hx=>by cases hv;cases hx;exact h
 | i+1,v,x,hv,hx=>hr i v x hv hx
def CB (P:Program) (f:FuncId):Prop := ∃ fn c,P.funcs[f]? = some fn∧(fn.name == "runtime.NumGoroutine")=false∧fn.body=some c
def qc1 (w:World) (v:Value):Ending→World→Prop:=fun e w'=>e = .returned v∧Kept w w'
theorem zan {K:Tm→World→Prop} {dst:Option Tmp} {ty:TypeId} {pos:String} {af:Array Edge} {g:Option (Nat × Bool)} {f:FuncId} {args:List Operand} {ats:Array TypeId} {vs:List Value} {v:Value} (hcb:CB P f)
  (ha:args.map (evT T)=vs) (hSt:St w0 X M H w) (hc:Calls P f vs.toArray w (qc1 w v)) (hk : ∀ w',St w0 X M H w'→K (qmg T dst v) w'):OW P n Q ⟨dst,.call ⟨.value (.func f),args.toArray,ats⟩,ty,pos,af,g⟩ T w K:=by
 obtain ⟨fn,c,hf,hname,hb⟩:=hcb
 exact qs6 hf hname hb ha hc fun e w' ⟨he,hK⟩=>⟨v,he,hk w' (hSt.call0 hK)⟩
theorem zao {K:Tm→World→Prop} {dst:Option Tmp} {ty:TypeId} {pos:String} {af:Array Edge} {g:Option (Nat × Bool)} {f:FuncId} {args:List Operand} {ats:Array TypeId} {vs:List Value} {rv:Mm→Value→Prop} (hcb:CB P f)
  (ha:args.map (evT T)=vs) (hSt:St w0 X M H w) (hc:Calls P f vs.toArray w (Gives M w rv)) (hk : ∀ v M' w',Mm.ext w0.heap.size X M M'→rv M' v→St w0 X M' H w'→K (qmg T dst v) w'):OW P n Q ⟨dst,.call ⟨.value (.func f),args.toArray,ats⟩,ty,pos,af,g⟩ T w K:=by
 obtain ⟨fn,c,hf,hname,hb⟩:=hcb
 exact q5w hf hname hb ha hSt hc hk
theorem qs8 {K:Tm→World→Prop} {dst:Option Tmp} {ty:TypeId} {pos:String} {af:Array Edge} {g:Option (Nat × Bool)} {α : Type} [Rep α] {t e m b:Nat} {parts:List (Nat × Operand)} {l:List α} (vs:List Value) (htp:TP P t e (Rep.k α) b) (hp:parts.map (fun p=>(p.1,evT T p.2))=vs.zipIdx.map (fun p=>(p.2,p.1))) (hm:vs.length=m) (hl:l.length=m) (hm0:0<m) (hs:m*Rep.k α ≤ 1000) (hby:m*Rep.bytes α ≤ 140737488351232)
  (hSt:St w0 X M H w) (hr : ∀ (i:Nat) v x,vs[i]? = some v→l[i]? = some x→rep M v.cells.toList x) (k : ∀ v M' w',Mm.ext w0.heap.size X M M'→repL M' v l→St w0 X M' (.row v e (Rep.k α)::H) w'→K (qmg T dst v) w'):OW P n Q ⟨dst,.buildSlice t m parts.toArray,ty,pos,af,g⟩ T w K:=by
 have hcells : ∀ v∈vs,v.cells.size=Rep.k α := by
  intro v hv
  obtain ⟨j,hj⟩:=List.getElem?_of_mem hv
  have hjl:j<l.length:=by rw [hl,← hm];exact (List.getElem?_eq_some_iff.1 hj).1
  have:=Rep.len (hr j v l[j] hj (by simp))
  simpa using this
 obtain ⟨e',hrun⟩:=qj5 (P:=P) (qyt htp) hm hcells hs hm0 w
 have hfl:(vs.flatMap fun v=>v.cells.toList)=(vs.map fun v=>v.cells.toList).flatten:=by rw [List.flatMap_def]
 have hle:=Mm.put_le (M:=M) (b:=w.heap.size) (vs.flatMap fun v=>v.cells.toList) (hSt.none_at (Nat.le_refl _))
 obtain ⟨hu,i,z,hi,hz,h2,h3,h1,hk,hb⟩:=htp
 have hrun2:=qfd (P:=P) hu hi hz h1 h2 hk hm hcells hs hm0 w
 rw [hrun] at hrun2
 have hw:w.alloc (.cells (vs.flatMap (fun v=>v.cells.toList)).toArray e')=w.alloc (.cells (vs.flatMap (fun v=>v.cells.toList)).toArray e):=by
  injection hrun2
 rw [hw] at hrun
 have hlen:(vs.flatMap fun v=>v.cells.toList).length=m*Rep.k α := by
  rw [← hm]
  clear hrun hrun2 hw hfl hle hr hp hm
  induction vs with
  | nil=>simp
  | cons v t ih =>
   simp only [List.flatMap_cons,List.length_append,List.length_cons,Nat.add_mul,Nat.one_mul]
   rw [ih (fun u hu=>hcells u (List.mem_cons_of_mem _ hu))]
   have:=hcells v List.mem_cons_self
   simp only [Array.length_toList,this]
   omega
 have hnew:(w.alloc (.cells (vs.flatMap (fun v=>v.cells.toList)).toArray e)).heap[w.heap.size]? = some (.cells (vs.flatMap (fun v=>v.cells.toList)).toArray e (0,0)):=by
  show (w.heap.push _)[w.heap.size]? = _
  simp
 have hS2:=hSt.allocM (vs.flatMap (fun v=>v.cells.toList)) e
 refine OW.of_run (v := .slice (some ⟨w.heap.size,0,none⟩) m m) (w':=w.alloc (.cells (vs.flatMap (fun v=>v.cells.toList)).toArray e)) ?_ (k _ _ _ (hSt.extM _) ?_ ⟨hS2.os,hS2.tape,hS2.output,hS2.size,hS2.frame,hS2.agree,fun f hf => ?_,fun f hf c hc => ?_,.cons (fun f hf c hc hc' => ?_) hS2.apart⟩)
 ·have hpa:(parts.toArray.map fun (p:Nat × Operand)=>(p.1,evT T p.2))=(vs.zipIdx.map fun p=>(p.2,p.1)).toArray:=by rw [← hp];simp
  simp only [execOp,Sem.run_bind]
  rw [show (Array.map (fun x=>match x with | (i,x)=>(i,evT T x)) parts.toArray)=(vs.zipIdx.map fun p=>(p.2,p.1)).toArray from hpa,hrun]
  rfl
 ·subst hl
  refine qkp (vs:=vs.map fun v=>v.cells.toList) (by rw [Mm.put_same,hfl]) (by simp [hm]) (Nat.le_refl _) hby ?_
  intro i ws x hws hx
  rw [List.getElem?_map] at hws
  cases hv:vs[i]? with
  | none=>rw [hv] at hws;cases hws
  | some v =>
   rw [hv] at hws
   simp only [Option.map_some,Option.some.injEq] at hws
   subst hws
   exact Rep.mono hle (hr i v x hv hx)
 ·rcases List.mem_cons.1 hf with rfl | hf
  ·refine ⟨m,vs.flatMap (fun v=>v.cells.toList),⟨hlen,.inr ⟨w.heap.size,m,_,rfl,Nat.zero_le _,hnew,Nat.le_refl _,?_,by simpa using hlen,?_⟩⟩,fun g hg=>by cases hg;exact Mm.put_same _ _ _⟩
   ·have:m≤m*Rep.k α := Nat.le_mul_of_pos_right _ hk
    unfold maxLen;omega
   ·rw [← hlen];exact List.take_length
  ·exact hS2.ents f hf
 ·rcases List.mem_cons.1 hf with rfl | hf
  ·cases hc;exact .inr hSt.size
  ·exact hS2.mine f hf c hc
 ·cases hc
  exact absurd (Ent.lt (hSt.ents f hf) hc') (Nat.lt_irrefl _)
def qai (L:List Ent):Nat→Prop:=fun b => ∃ e∈L,e.blk=some b
theorem St.lent {L:List Ent} (h:St w0 X M (L++H) w):St w (qai L) M L w :=
 ⟨rfl,rfl,rfl,Nat.le_refl _,fun _ _ _=>rfl,h.agree,fun e he=>h.ents e (List.mem_append_left _ he),fun e he _ hb => .inl ⟨e,he,hb⟩,(List.pairwise_append.1 h.apart).1⟩
theorem St.lend {w':World} {M':Mm} {L L':List Ent} (h:St w0 X M (L++H) w) (h2:St w (qai L) M' L' w') (he:Mm.ext w.heap.size (qai L) M M'):St w0 X M' (L'++H) w'∧Mm.ext w0.heap.size X M M':=by
 have hmine : ∀ b,qai L b→X b∨w0.heap.size≤b:=fun b ⟨e,he,hb⟩=>h.mine e (List.mem_append_left _ he) b hb
 have hap:=List.pairwise_append.1 h.apart
 have hH : ∀ f∈H,∀ b,f.blk=some b→b<w.heap.size ∧ ¬ qai L b:=fun f hf b hb =>
  ⟨Ent.lt (h.ents f (List.mem_append_right _ hf)) hb,fun ⟨e,he,hb'⟩=>hap.2.2 e he f hf b hb' hb⟩
 refine ⟨⟨h2.os.trans h.os,h2.tape.trans h.tape,h2.output.trans h.output,Nat.le_trans h.size h2.size,fun k hk hx => ?_,h2.agree,fun f hf => ?_,fun f hf b hb => ?_,List.pairwise_append.2 ⟨h2.apart,hap.2.1,fun e he f hf b hb hb' => ?_⟩⟩,he.1,fun b hb hx=>he.2 b (Nat.lt_of_lt_of_le hb h.size) fun hl => ?_⟩
 ·rw [h2.frame k (Nat.lt_of_lt_of_le hk h.size) fun hl => ?_]
  ·exact h.frame k hk hx
  ·rcases hmine k hl with h1 | h1
   ·exact hx h1
   ·omega
 ·rcases List.mem_append.1 hf with hf | hf
  ·exact h2.ents f hf
  ·exact Ent.kept (h.ents f (List.mem_append_right _ hf)) fun b hb=>⟨h2.frame b (hH f hf b hb).1 (hH f hf b hb).2,he.2 b (hH f hf b hb).1 (hH f hf b hb).2⟩
 ·rcases List.mem_append.1 hf with hf | hf
  ·rcases h2.mine f hf b hb with h1 | h1
   ·exact hmine b h1
   ·exact .inr (Nat.le_trans h.size h1)
  ·exact h.mine f (List.mem_append_right _ hf) b hb
 ·rcases h2.mine e he b hb with h1 | h1
  ·exact (hH f hf b hb').2 h1
  ·have:=(hH f hf b hb').1
   omega
 ·rcases hmine b hl with h1 | h1
  ·exact hx h1
  ·omega
def qcv (M:Mm) (w:World) (L:List Ent) (rv:Mm→Value→List Ent→Prop):Ending→World→Prop:=fun e w' =>
 ∃ v M' L',e = .returned v∧Mm.ext w.heap.size (qai L) M M'∧St w (qai L) M' L' w'∧rv M' v L'
def WQ (P:Program) (n:Nat) (ops:Array Oper) (S:World→Prop) (K:Tm→Prop) (l:List Oper) (T:Tm):Prop:=l.all (operOk n)=true → ∀ a,Fr n T a→wpQuiet P ops S (fun a' => ∃ T',Fr n T' a'∧K T') l a
theorem qr0 {id:Nat} {l:List Oper} (hm:P.follows .mixedOrders=true) (hB:Region.lexB .any l.toArray=true) (hSt:St w0 X M H w) (h:WQ P n l.toArray (St w0 X M H) (fun T' => ∀ w',St w0 X M H w'→Q .normal T' w') l T):W P n (.region id l.toArray true) Q T w:=by
 intro hok a ha
 refine wp_region_quiet (C:=St w0 X M H) hm hB hSt.drew ?_
 have h1:=h (by simpa [qfh] using hok) a ha
 have key : ∀ (l':List Oper) (a:Act) {K K':Act→Prop},(∀ a,K a→K' a)→wpQuiet P l.toArray (St w0 X M H) K l' a→wpQuiet P l.toArray (St w0 X M H) K' l' a:=by
  intro l'
  induction l' with
  | nil=>intro a K K' hk h;exact hk a h
  | cons o r ih =>
   intro a K K' hk h
   unfold wpQuiet at h ⊢
   split
   ·rename_i hw
    rw [if_pos hw] at h
    exact Oper.quiet_mono (fun a ha=>ih a hk ha) h
   ·rename_i hw
    rw [if_neg hw] at h
    exact ih _ hk h
 exact key l a (fun a' ⟨T',hf,hK⟩ w' hw'=>⟨T',hf,hK w' hw'⟩) h1
theorem qxl {S:World→Prop} {K:Tm→Prop} (h:K T):WQ P n ops S K [] T:=fun _ _ ha=>⟨T,ha,h⟩
theorem WQ_y {S:World→Prop} {K:Tm→Prop} {rest:List Oper} {d:Nat} {op:Op} {ty:TypeId} {pos:String} {af:Array Edge} {v:Value} (h:YV P S T ⟨some d,op,ty,pos,af,none⟩ v) (k:WQ P n ops S K rest (upd T d v)):WQ P n ops S K (⟨some d,op,ty,pos,af,none⟩::rest) T:=by
 intro hok a ha
 simp only [List.all_cons,Bool.and_eq_true] at hok
 unfold wpQuiet
 rw [if_pos (show Region.wanted ⟨some d,op,ty,pos,af,none⟩ (yielded ops a.tmps)=true from rfl)]
 refine ⟨v,fun w' hw' => ?_,k hok.2 _ (ha.put (some d) v (operOk.lt hok.1))⟩
 unfold Oper.quietAt
 rw [ha.eval,h w' hw']
 exact ⟨rfl,rfl⟩
theorem q67 {j:Nat} {b:Nat} {cs:List Value} {t:TypeId} (hj:H[j]? = some (.box b cs t)):BV (St w0 X M H) b cs:=fun w h=>h.bvB j hj w rfl
end
theorem qar {P:Program} {f:FuncId} (h:(match P.funcs[f]? with | some fn => !(fn.name == "runtime.NumGoroutine")&&fn.body.isSome | none=>false)=true):CB P f:=by
 cases hf:P.funcs[f]? with
 | none=>rw [hf] at h;cases h
 | some fn =>
  rw [hf] at h
  simp only [Bool.and_eq_true,Bool.not_eq_true'] at h
  obtain ⟨c,hc⟩:=Option.isSome_iff_exists.1 h.2
  exact ⟨fn,c,hf,h.1,hc⟩
instance {α : Type} [Rep α] [Pos α] {n:Nat} [NeZero n]:Pos (Vector α n):=⟨Nat.mul_pos (Nat.pos_of_ne_zero (NeZero.ne n)) Pos.pos⟩
end Go.Proofs.Yteilffoclpgijaa
namespace Go.Proofs.Yteilffoclpgijaa
open Go.RowKit
open Rep (rep)
def EQ (P:Program) (t:TypeId) (α : Type) [Rep α] [DecidableEq α] (n:Nat):Prop :=
 ∀ (M M':Mm) (w:World) (d:Nat) (xs ys:List Value) (o o':Nat) (x y : α),n≤d→rep M (sl xs o (Rep.k α)) x→rep M' (sl ys o' (Rep.k α)) y →
  ∃ a b,(part t xs.toArray o).run P w = .ok a w∧(part t ys.toArray o').run P w = .ok b w∧(Op.equalIn d t a b).run P w = .ok (decide (x=y)) w
def EV (P:Program) (t:TypeId) (α : Type) [Rep α] [DecidableEq α] (n:Nat):Prop :=
 ∀ (M M':Mm) (w:World) (d:Nat) (xs ys:List Value) (x y : α),n≤d→rep M xs x→rep M' ys y →
  (Op.equalIn d t (.agg xs.toArray) (.agg ys.toArray)).run P w = .ok (decide (x=y)) w
section
variable {P:Program} {t e:TypeId}
theorem q48 (ht:P.underlying t=some (.int .i64)):EQ P t Int 1:=by
 intro M M' w d xs ys o o' x y hd hx hy
 have hx:sl xs o 1=[.int .i64 x]:=hx
 have hy:sl ys o' 1=[.int .i64 y]:=hy
 obtain ⟨d,rfl⟩ : ∃ e,d=e+1:=⟨d-1,by omega⟩
 refine ⟨_,_,qfr ⟨_,ht,rfl⟩ _ _ _ (by simpa using qm3 hx) w,qfr ⟨_,ht,rfl⟩ _ _ _ (by simpa using qm3 hy) w,?_⟩
 rw [run_equalIn_int w d t .i64 .i64 x y ht]
 rfl
theorem q0x (ht:P.underlying t=some .bool):EQ P t Bool 1:=by
 intro M M' w d xs ys o o' x y hd hx hy
 have hx:sl xs o 1=[.bool x]:=hx
 have hy:sl ys o' 1=[.bool y]:=hy
 obtain ⟨d,rfl⟩ : ∃ e,d=e+1:=⟨d-1,by omega⟩
 refine ⟨_,_,qfr ⟨_,ht,rfl⟩ _ _ _ (by simpa using qm3 hx) w,qfr ⟨_,ht,rfl⟩ _ _ _ (by simpa using qm3 hy) w,?_⟩
 rw [run_equalIn_bool' w d t x y ht]
 cases x<;>cases y<;>rfl
variable {α : Type} [Rep α] [DecidableEq α]
theorem qom {n m d:Nat} (he:EQ P e α n) (hd:n≤d) (hc:P.cellsOf e=Rep.k α) {M M':Mm} {w:World} {xs ys:List Value} {x y:Vector α m} (hx:rep M xs x) (hy:rep M' ys y) : ∀ (is:List Nat),(∀ i∈is,i<m) →
  (Op.eqItems d e (P.cellsOf e) xs.toArray ys.toArray is).run P w = .ok (is.all fun i=>decide (x[i]? = y[i]?)) w
 | [],_=>by simp [Op.eqItems]
 | i::is,h=>by
  have hi:=h i List.mem_cons_self
  have ih:=qom (w:=w) he hd hc hx hy is fun j hj=>h j (List.mem_cons_of_mem _ hj)
  obtain ⟨_,_,hx3⟩:=hx
  obtain ⟨_,_,hy3⟩:=hy
  obtain ⟨a,b,h1,h2,h3⟩:=he M M' w d xs ys (i*Rep.k α) (i*Rep.k α) x[i] y[i] hd (hx3 i hi) (hy3 i hi)
  rw [← hc] at h1 h2
  simp only [Op.eqItems,Sem.run_bind,h1,h2,h3,Result.andThen_ok,List.all_cons]
  have e1:x[i]? = some x[i]:=by simp [hi]
  have e2:y[i]? = some y[i]:=by simp [hi]
  rw [e1,e2]
  by_cases hxy:x[i]=y[i]
  ·simp only [hxy,decide_true,Bool.not_true,Bool.false_eq_true,if_false,Bool.true_and]
   exact ih
  ·simp [hxy]
theorem qny {m n:Nat} (ht:P.underlying t=some (.array m e)) (hi:(P.info? e).isSome=true) (hc:P.cellsOf e=Rep.k α) (he:EQ P e α n):EV P t (Vector α m) (n+1):=by
 intro M M' w d xs ys x y hd hx hy
 obtain ⟨d,rfl⟩ : ∃ e,d=e+1:=⟨d-1,by omega⟩
 obtain ⟨i,hi⟩:=Option.isSome_iff_exists.1 hi
 rw [run_equalIn_array w d _ _ ht hi,qom he (by omega) hc hx hy (List.range m) fun j hj=>List.mem_range.1 hj]
 congr 1
 rw [Bool.eq_iff_iff]
 simp only [List.all_eq_true,List.mem_range,decide_eq_true_eq]
 constructor
 ·intro h
  refine Vector.ext fun j hj => ?_
  have:=h j hj
  simpa [hj] using this
 ·intro h j hj
  rw [h]
def EG (P:Program) (t:TypeId) (α : Type) [Rep α] [DecidableEq α]:Prop:=P.eqGuardType P.depth t=false∧EV P t α 5
theorem EV.le {n m:Nat} (h:EV P t α n) (hm:n≤m):EV P t α m:=fun M M' w d xs ys x y hd hx hy=>h M M' w d xs ys x y (Nat.le_trans hm hd) hx hy
end
section
variable {P:Program} {T:Tm} {S:World→Prop} {dst:Option Tmp} {ty:TypeId} {pos:String} {af:Array Edge} {g:Option (Nat × Bool)} {x y:Operand} {t u:TypeId}
theorem q3z {α : Type} [Rep α] [DecidableEq α] {M M':Mm} {cs ds:List Value} {a b : α} (hx:evT T x = .agg cs.toArray) (hy:evT T y = .agg ds.toArray) (hg:EG P t α) (h1:rep M cs a) (h2:rep M' ds b):YV P S T ⟨dst,.binOp .eql t x y u,ty,pos,af,g⟩ (.bool (decide (a=b))):=by
 intro w _
 have:=hg.2 M M' w 10000 cs ds a b (by decide) h1 h2
 simp [execOp,hx,hy,Sem.run_bind,run_eqGuard_agg w .eql t x y _ _ hg.1,run_eql_struct,this]
theorem zap {α : Type} [Rep α] [DecidableEq α] {M M':Mm} {cs ds:List Value} {a b : α} (hx:evT T x = .agg cs.toArray) (hy:evT T y = .agg ds.toArray) (hg:EG P t α) (h1:rep M cs a) (h2:rep M' ds b):YV P S T ⟨dst,.binOp .neq t x y u,ty,pos,af,g⟩ (.bool (!decide (a=b))):=by
 intro w _
 have:=hg.2 M M' w 10000 cs ds a b (by decide) h1 h2
 simp [execOp,hx,hy,Sem.run_bind,run_eqGuard_agg w .neq t x y _ _ hg.1,run_neq_struct,this]
def qs9:Value→Bool
 | .slice none _ _=>true
 | _=>false
theorem qmh {α : Type} [Rep α] {M:Mm} {v:Value} {l:List α} (h:repL M v l) (hn:qs9 v=true):l=[]:=by
 obtain ⟨a,cap,rfl,h1,h2,_⟩:=h
 cases a with
 | none =>
  have:=h2 rfl
  exact List.length_eq_zero_iff.1 (by omega)
 | some a=>cases hn
theorem qr1 {α : Type} [Rep α] {M:Mm} {v:Value} {l:List α} {e:TypeId} (hx:evT T x=v) (hy:evT T y = .slice none 0 0) (ht:P.underlying t=some (.slice e)) (h:repL M v l):YV P S T ⟨dst,.binOp .eql t x y u,ty,pos,af,g⟩ (.bool (qs9 v)):=by
 intro w _
 obtain ⟨a,cap,rfl,_⟩:=h
 have h1:(Op.equal t (.slice a l.length cap) (.slice none 0 0)).run P w = .ok (qs9 (.slice a l.length cap)) w:=by
  have:Op.equal t (.slice a l.length cap) (.slice none 0 0)=Op.equalIn (9999+1) t (.slice a l.length cap) (.slice none 0 0):=rfl
  rw [this]
  unfold Op.equalIn
  cases a<;>simp [Sem.run_bind,run_underlying ht w,qs9]
 have h2:(eqGuard .eql t x y (.slice a l.length cap) (.slice none 0 0)).run P w = .ok () w:=by simp [eqGuard]
 have h3:(binOp .eql t (.slice a l.length cap) (.slice none 0 0)).run P w = .ok (.bool (qs9 (.slice a l.length cap))) w:=by
  simp only [binOp]
  simp [h1]
 simp [execOp,hx,hy,Sem.run_bind,h2,h3]
theorem qta {zs:List Value} {n k:Nat} (hz:TZ P t zs) (ht:IA P t n k):YV P S T ⟨dst,.build t #[],ty,pos,af,g⟩ (.agg zs.toArray):=by
 intro w _
 obtain ⟨i,z,h2,h3,h4⟩:=hz
 obtain ⟨e,h1,h5⟩:=ht
 have hz:z.cells=zs.toArray:=by rw [← h4]
 simp only [execOp,Instr.build]
 simp [Sem.run_bind,zeroValue,typeInfo,h2,h3,run_underlying h1 w,qax h5,hz,Instr.fill]
end
section
variable {P:Program} {n:Nat} {Q:Exit→Tm→World→Prop} {T:Tm} {w0 w:World} {X:Nat→Prop} {M:Mm} {H:List Ent}
theorem qmi {K:Tm→World→Prop} {dst:Option Tmp} {ty:TypeId} {pos:String} {af:Array Edge} {g:Option (Nat × Bool)} {t e k b:Nat} (htp:TP P t e k b)
  (hSt:St w0 X M H w) (kk : ∀ v M' w',Mm.ext w0.heap.size X M M'→(∀ (α : Type) [Rep α],repL M' v ([]:List α))→St w0 X M' (.row v e k::H) w'→K (qmg T dst v) w'):OW P n Q ⟨dst,.buildSlice t 0 #[],ty,pos,af,g⟩ T w K:=by
 obtain ⟨hu,i,z,hi,hz,h2,h3,h1,hk,hb⟩:=htp
 have hrun:(Instr.buildSlice t 0 #[]).run P w = .ok (.slice (some ⟨w.heap.size,0,none⟩) 0 0) (w.alloc (.cells #[] e)):=by
  simp only [Instr.buildSlice,Sem.run_bind,run_underlying hu w,Result.andThen,qax (P:=P) (t:=e) (n:=k) (by rw [hi];simp [h2]) w]
  have e0:Array.range (0*k) = #[]:=by simp
  rw [if_neg (by simp)]
  simp only [e0]
  simp [Instr.fill,newRow,newObj]
  rfl
 have hnew:(w.alloc (.cells #[] e)).heap[w.heap.size]? = some (.cells #[] e (0,0)):=by
  show (w.heap.push _)[w.heap.size]? = _
  simp
 have hS2:=hSt.allocM [] e
 refine OW.of_run (v := .slice (some ⟨w.heap.size,0,none⟩) 0 0) (w':=w.alloc (.cells #[] e)) ?_ (kk _ _ _ (hSt.extM []) ?_ ⟨hS2.os,hS2.tape,hS2.output,hS2.size,hS2.frame,hS2.agree,fun f hf => ?_,fun f hf c hc => ?_,.cons (fun f hf c hc hc' => ?_) hS2.apart⟩)
 ·simp only [execOp,Sem.run_bind]
  simp [hrun]
 ·intro α _
  exact ⟨some ⟨w.heap.size,0,none⟩,0,rfl,Nat.le_refl _,fun h=>(by cases h),by simp,fun i x hx=>by simp at hx⟩
 ·rcases List.mem_cons.1 hf with rfl | hf
  ·exact ⟨0,[],⟨by simp,.inr ⟨w.heap.size,0,#[],rfl,Nat.zero_le _,hnew,Nat.le_refl _,Nat.zero_le _,by simp,by simp⟩⟩,fun g hg=>by cases hg;exact Mm.put_same _ _ _⟩
  ·exact hS2.ents f hf
 ·rcases List.mem_cons.1 hf with rfl | hf
  ·cases hc;exact .inr hSt.size
  ·exact hS2.mine f hf c hc
 ·cases hc
  exact absurd (Ent.lt (hSt.ents f hf) hc') (Nat.lt_irrefl _)
end
section
variable {w0 w:World} {X:Nat→Prop} {M:Mm} {H:List Ent}
theorem St.freeze {b:Nat} {cs:List Value} {t:TypeId} (j:Nat) (h:St w0 X M H w) (hj:H[j]? = some (.box b cs t)) : ∃ M',M' b=some cs∧Mm.ext w0.heap.size X M M'∧St w0 X M' (H.eraseIdx j) w:=by
 have hmem:Ent.box b cs t∈H:=List.mem_of_getElem? hj
 obtain ⟨hh,hMb⟩:=h.ents _ hmem
 have hsub:=List.eraseIdx_sublist H j
 have hne : ∀ e∈H.eraseIdx j,∀ c,e.blk=some c→c≠b:=by
  intro e he c hc hcb
  subst hcb
  obtain ⟨i,hij,hi⟩:=List.mem_eraseIdx_iff_getElem?.1 he
  rcases Nat.lt_or_gt_of_ne hij with hlt | hlt
  ·exact List.pairwise_iff_getElem.1 h.apart i j (List.getElem?_eq_some_iff.1 hi).1 (List.getElem?_eq_some_iff.1 hj).1 hlt c (by rw [(List.getElem?_eq_some_iff.1 hi).2];exact hc) (by rw [(List.getElem?_eq_some_iff.1 hj).2];rfl)
  ·exact List.pairwise_iff_getElem.1 h.apart j i (List.getElem?_eq_some_iff.1 hj).1 (List.getElem?_eq_some_iff.1 hi).1 hlt c (by rw [(List.getElem?_eq_some_iff.1 hj).2];rfl) (by rw [(List.getElem?_eq_some_iff.1 hi).2];exact hc)
 refine ⟨M.put b cs,Mm.put_same _ _ _,⟨Mm.put_le cs hMb,fun c hc hx=>Mm.put_other _ _ fun hcb => ?_⟩,⟨h.os,h.tape,h.output,h.size,h.frame,fun c p hc => ?_,fun e he => ?_,fun e he=>h.mine e (hsub.subset he),h.apart.sublist hsub⟩⟩
 ·subst hcb
  rcases h.mine _ hmem c rfl with h1 | h1
  ·exact hx h1
  ·omega
 ·by_cases hcb:c=b
  ·subst hcb
   rw [Mm.put_same] at hc
   cases hc
   exact ⟨_,t,(0,0),hh,by simp⟩
  ·rw [Mm.put_other _ _ hcb] at hc
   exact h.agree c p hc
 ·exact Ent.kept (h.ents e (hsub.subset he)) fun c hc=>⟨rfl,Mm.put_other _ _ (hne e he c hc)⟩
theorem q30 {α : Type} [Rep α] {b off n:Nat} {cs:List Value} {vec:Vector α n} (hb:M b=some cs) (hl:off+n*Rep.k α ≤ cs.length) (h:rep M (sl cs off (n*Rep.k α)) vec) (hby:n*Rep.bytes α ≤ 140737488351232):repL M (.slice (some ⟨b,off,none⟩) n n) vec.toList:=by
 have hn:vec.toList.length=n:=by simp
 refine ⟨some ⟨b,off,none⟩,n,by rw [hn],by rw [hn];exact Nat.le_refl _,fun h=>(by cases h),by rw [hn];exact hby,fun i x hx => ?_⟩
 have hi:i<n:=by
  have:=(List.getElem?_eq_some_iff.1 hx).1
  omega
 have hik:i*Rep.k α + Rep.k α ≤ n*Rep.k α := by
  have:=Nat.mul_le_mul_right (Rep.k α) (show i+1≤n by omega)
  rw [Nat.add_mul,Nat.one_mul] at this
  exact this
 obtain ⟨_,_,h3⟩:=h
 have:=h3 i hi
 rw [qal _ hik] at this
 have hxe:vec[i]=x:=by
  have:=(List.getElem?_eq_some_iff.1 hx).2
  simpa using this
 refine ⟨b,off,cs,rfl,hb,by omega,?_⟩
 rw [← hxe]
 exact this
end
section
variable {P:Program} {T:Tm} {S:World→Prop} {dst:Option Tmp} {ty:TypeId} {pos:String} {af:Array Edge} {g:Option (Nat × Bool)}
theorem q72 {t:TypeId} {k n b off:Nat} {x:Operand} {lo hi:Option Operand} {l h:Option Int} {p q:Nat} (ht:IA P t n k) (hx:evT T x = .pointer (some ⟨b,off,none⟩)) (hl:evI T lo l) (hh:evI T hi h) (hc:qgm n l h=some (p,q)) :
  YV P S T ⟨dst,.slice t x lo hi none,ty,pos,af,g⟩ (qj2 (.slice (some ⟨b,off,none⟩) n n) k p q):=by
 intro w _
 obtain ⟨e,h1,h2⟩:=ht
 have hb:=qfy (P:=P) (b:=false) (cap:=n) hl hh hc (Nat.le_refl _) w
 simp [execOp,hx,Instr.sliceAt,Instr.sureAddr,Sem.run_bind,run_underlying h1 w,hb,qax h2,qj2]
 split<;>rfl
end
structure Hole where
instance:Rep Hole where
 k:=1
 bytes:=24
 rep _ cs _ := ∃ v:Value,cs=[v]∧v.oneCell'=true
 len h:=by obtain ⟨v,rfl,_⟩:=h;rfl
 mono _ h:=h
 one h:=by obtain ⟨v,rfl,h⟩:=h;simpa using h
instance:Zr Hole:=⟨Hole.mk,[.slice none 0 0],_,rfl,by simp [Value.oneCell']⟩
instance:Pos Hole:=⟨Nat.one_pos⟩
structure Ptr where
 b:Option Nat
instance:Rep Ptr where
 k:=1
 bytes:=8
 rep _ cs x:=cs=[.pointer (x.b.map fun b=>⟨b,0,none⟩)]
 len h:=by rw [h];rfl
 mono _ h:=h
 one h:=by rw [h];simp [Value.oneCell']
instance:Zr Ptr:=⟨⟨none⟩,[.pointer none],rfl⟩
instance:Pos Ptr:=⟨Nat.one_pos⟩
theorem q52 {M:Mm} {b:Nat}:rep M [.pointer (some ⟨b,0,none⟩)] (Ptr.mk (some b)):=rfl
end Go.Proofs.Yteilffoclpgijaa
namespace Go.Proofs.Yteilffoclpgijaa
set_option linter.unusedVariables false
open Go.RowKit
open Rep (rep)
theorem rr {α : Type} [Rep α] {M:Mm} {cs:List Value} {d : α} (h:rep M cs d):rep M (sl cs 0 (Rep.k α)) d:=q3v rfl h
theorem ri {M:Mm} (x:Int):rep M [Value.int .i64 x] x:=rfl
theorem rb {M:Mm} (x:Bool):rep M [Value.bool x] x:=rfl
theorem ru {M:Mm} (x:Int):rep M [Value.int .u8 x] (⟨x⟩:Byt):=rfl
def Pn {α : Type} [Rep α] (M:Mm) (cs ws:List Value) (q o n:Nat) (x : α):Prop:=rep M (sl (pt cs q ws) o n) x∧o≤q∧q+ws.length≤o+n∧o+n≤cs.length
section
variable {α β : Type} [Rep α] [Rep β] {M:Mm} {cs ws:List Value}
theorem Lf {q k:Nat} {y x : α} (old:rep M (sl cs q k) y) (hx:rep M ws x) (hk:Rep.k α = k:=by rfl) (h0:0<k:=by decide):Pn M cs ws q q k x:=by
 have h1:=Rep.len old
 have h2:=Rep.len hx
 have h3:=qbl (h1.trans hk) h0
 exact ⟨q3w hk hx (by omega),Nat.le_refl _,by omega,h3⟩
theorem ot {o K f n q:Nat} {y : β} (hf:f+n≤K) (ha:o+f+n≤q∨q+ws.length≤o+f) (hq:q+ws.length≤cs.length) (e:rep M (sl (sl cs o K) f n) y):rep M (sl (sl (pt cs q ws) o K) f n) y:=by
 rw [qal _ hf] at e ⊢
 rwa [qhk hq ha]
theorem vu {n k N o q:Nat} {v v':Vector α n} {j:Int} {x : α} (hk:Rep.k α = k) (hN:n*k=N) (h:rep M (sl cs o N) v) (hx:Pn M cs ws q (o+j.toNat*k) k x) (hj:qe2 v j x=some v'):Pn M cs ws q o N v':=by
 obtain ⟨h1,h2,h3,h4⟩:=hx
 obtain ⟨h5,h6,_⟩:=qs4 hj
 have hle:=Nat.mul_le_mul_right k (show j.toNat+1≤n by omega)
 rw [Nat.add_mul,Nat.one_mul,hN] at hle
 have hlen:=Rep.len h
 have hN':Rep.k (Vector α n)=N:=by rw [← hN,← hk];rfl
 by_cases h0:0<N
 ·have hl:=qbl (hlen.trans hN') h0
  exact ⟨vs hk hN h h1 hj h2 h3 hl,by omega,by omega,hl⟩
 ·have hk0:k=0:=by
   rcases Nat.eq_zero_or_pos k with e | e
   ·exact e
   ·have:0<n*k:=Nat.mul_pos (by omega) e
    omega
  have hl:o+N≤cs.length:=by omega
  exact ⟨vs hk hN h h1 hj h2 h3 hl,by omega,by omega,hl⟩
theorem Wh {q:Nat} {d d0 : α} (h0:rep M cs d0) (h:Pn M cs ws q 0 (Rep.k α) d):rep M (pt cs q ws) d:=by
 obtain ⟨h1,h2,h3,h4⟩:=h
 exact q0u (by rw [qah (by omega)];exact Rep.len h0) h1
theorem zaq {cs ws:List Value} {o m p n:Nat} {vs:List Value} (hs:sl cs o m=ws) (hp:sl ws p n=vs) (h:p+n≤m):sl cs (o+p) n=vs:=by rw [← hs,qal _ h] at hp;exact hp
end
section
variable {P:Program} {n:Nat} {Q:Exit→Tm→World→Prop} {T:Tm} {w w0:World} {X:Nat→Prop} {M:Mm} {H:List Ent} {K:Tm→World→Prop} {ty:TypeId} {pos:String} {af:Array Edge} {g:Option (Nat × Bool)}
theorem O_sx {α β : Type} [Rep α] [Rep β] (j m:Nat) {b off:Nat} {cs ws:List Value} {t t':TypeId} {x y:Operand} {v:Value} {d0 d1 d2 : α} {e : β} (hSt:St w0 X M H w) (hj:H[j]? = some (.box b cs t')) (h0:rep M cs d0)
  (hx:evT T x = .pointer (some ⟨b,off,none⟩)) (hy:evT T y=v) (hr:rep M ws e) (hv:v.cells.toList=ws) (hm:Rep.k β = m) (hb:Pn M cs ws off 0 (Rep.k α) d1) (hd:some d1=some d2)
  (k : ∀ cs' w',rep M cs' d2→(∀ {o n:Nat},o+n≤off∨off+m≤o→sl cs' o n=sl cs o n)→sl cs' off m=ws→St w0 X M (H.set j (.box b cs' t')) w'→K T w') (hn:(P.info? t).map (·.size)=some m:=by kernel_rfl) :
  OW P n Q ⟨none,.store t x y,ty,pos,af,g⟩ T w K:=by
 have hlen:=(Rep.len hr).trans hm
 have h4:=hb.2.2.1
 have h5:=hb.2.2.2
 refine O_st hSt hj hn hx hy hv hlen (Rep.one hr) (by omega) fun w' hS' => ?_
 exact k _ w' (q46 (Wh h0 hb) hd) (fun h=>qhk (by omega) (by omega)) (qqn (by omega) hlen) hS'
end
end Go.Proofs.Yteilffoclpgijaa
namespace Go.Proofs.Yteilffoclpgijaa
open Go.RowKit
def qas (k:Int):Int:=if k%2=0 then 0 else 1
def ofZ (n:Int):Int:=if n<3 then 0 else 1
def qd1 (v:Int):Int:=if v>1099511627776 then 1099511627776 else if v < -1099511627776 then -1099511627776 else v
def doZ (v:Int) (o:GOp):Int:=if o.kind=2 then qd1 o.n else if o.kind=3 then qd1 (qd1 v+qd1 o.n) else qd1 v
theorem qvu {a b:Int} (h:a=b):Ending.returned (.int .i64 a) = .returned (.int .i64 b):=by rw [h]
theorem qbe {a b:Bool} (h:a=b):Ending.returned (.bool a) = .returned (.bool b):=by rw [h]
theorem zar (k:Int):k.tmod 2=if k%2=0 then 0 else if 0≤k then 1 else -1:=by
 rcases Int.lt_or_le k 0 with h | h
 ·obtain ⟨m,rfl⟩ : ∃ m,k = -m:=⟨-k,by omega⟩
  rw [Int.neg_tmod,Int.tmod_eq_emod_of_nonneg (by omega)]
  split
  ·omega
  ·rw [if_neg (by omega)];omega
 ·rw [Int.tmod_eq_emod_of_nonneg h]
  split<;>omega
theorem qvv (k:Int):(wrap64 (k.tmod 2+2)).tmod 2=qas k:=by
 rw [zar k]
 unfold qas
 split
 ·rw [IntWalk.wrap64_in _ ⟨by omega,by omega⟩];rfl
 ·split<;>rw [IntWalk.wrap64_in _ ⟨by omega,by omega⟩]<;>rfl
theorem qe3 (k:Int) (w:World) :
  Calls Try.prog 75 #[.int .i64 k] w fun e w'=>e = .returned (.int .i64 (qas k))∧w=w':=by
 go_enter Try.func75,Try.ntmps75
 go_wp2
 go_ret
 exact ⟨qvu (qvv k),rfl⟩
theorem q73 (n:Int) (w:World) :
  Calls Try.prog 72 #[.int .i64 n] w fun e w'=>e = .returned (.int .i64 (ofZ n))∧w=w':=by
 go_enter Try.func72,Try.ntmps72
 go_wp2
 all_goals
  go_ret
  exact ⟨qvu (by unfold ofZ;split<;>omega),rfl⟩
theorem q74 (v:Int) (o:GOp) (w:World) :
  Calls Try.prog 27 #[.int .i64 v,.agg #[.int .i64 o.kind,.int .i64 o.key,.int .i64 o.n]] w fun e w'=>e = .returned (.int .i64 (doZ v o))∧Below w.heap.size w w':=by
 go_enter Try.func27,Try.ntmps27
 go_wp2
 all_goals
  go_ret
  exact ⟨qvu (by unfold doZ qd1;simp_all<;>omega),(Below.refl _ _).alloc (Nat.le_refl _) _⟩
def qcp (l:List Int) (n:Int):Bool:=l.any fun m=>m==n
end Go.Proofs.Yteilffoclpgijaa
namespace Go.Proofs.Yteilffoclpgijaa
open Go.RowKit
def qac (l:List GOp) (s:Int):Bool:=l.any fun o=>qas o.key==s
theorem qtb (l:List GOp) (k:Nat) (o:GOp) (s:Int) (h:l[k]? = some o):qac (l.take (k+1)) s=(qac (l.take k) s||qas o.key==s):=by
 rw [qk4 h];unfold qac;rw [List.any_append];simp
theorem qyu (l:List GOp) (k:Nat) (o:GOp) (s:Int) (h:l[k]? = some o) (hs:(qas o.key==s)=true):qac l s=true :=
 List.any_eq_true.2 ⟨o,List.mem_of_getElem? h,hs⟩
theorem qvw {S:Nat→Prop} (v:Value) (l:List GOp) (s:Int) (w:World) (hv:ROps S w v l) :
  Calls Try.prog 71 #[v,.int .i64 s] w fun e w'=>e = .returned (.bool (qac l s))∧Below w.heap.size w w':=by
 obtain ⟨a,cap,rfl,hm⟩:=hv.shape
 have Hhv:=Go.Lib.hid hv;clear hv
 go_enter Try.func71,Try.ntmps71
 go_wp2_with fail
 go_loopw [4,9] (fun v4 i wr => ∃ k:Nat,k≤l.length∧i = .int .i64 k∧v4 = .bool false∧qac (l.take k) s=false∧Below w.heap.size w wr) (fun _ i _=>l.length-(intOf i).toNat)
 case atStart=>exact ⟨0,Nat.zero_le _,rfl,rfl,rfl,Below.refl _ _⟩
 case round =>
  obtain ⟨k,hk,rfl,rfl,ht,hb⟩:=hrel
  by_cases hlt:k<l.length
  ·obtain ⟨o,ho⟩:=qin hlt
   obtain ⟨b,off,rfl,hs,hbs,h0,h1,h2⟩:=(Hhv.out.later hb).at ho
   have HS:=Go.Lib.hid (qtb l k o s ho)
   have Hho:=Go.Lib.hid ho;clear ho;have Hht:=Go.Lib.hid ht;clear ht
   have HB:=Go.Lib.hid (hb.alloc hb.size (.cells #[.int .i64 o.kind,.int .i64 o.key,.int .i64 o.n] 65))
   clear hb
   by_cases hx:(qas o.key==s)=true
   ·go_wp2_with (go_at_call 75;refine (qe3 _ _).mono ?_;rintro e w' ⟨rfl,rfl⟩)
    go_ret
    exact ⟨qbe (qyu l k o s Hho.out hx).symm,HB.out⟩
   ·have hx:(qas o.key==s)=false:=by simpa using hx
    go_wp2_with (go_at_call 75;refine (qe3 _ _).mono ?_;rintro e w' ⟨rfl,rfl⟩)
    go_roundw
    case rel=>exact ⟨k+1,by omega,by go_num,rfl,by rw [HS.out,Hht.out,hx];rfl,HB.out⟩
    case measure=>simp [intOf];omega
  ·have hkl:k=l.length:=by omega
   have HT:qac l s=false:=by rw [hkl] at ht;simpa using ht
   have HHT:=Go.Lib.hid HT;clear HT;have Hhb:=Go.Lib.hid hb;clear hb
   clear ht hkl
   go_wp2_with fail
   go_ret
   exact ⟨qbe HHT.out.symm,Hhb.out⟩
def qgt (f:Nat→Bool) (n:Nat):Bool:=(List.range n).all f
theorem qmj (f:Nat→Bool) (n:Nat):qgt f (n+1)=(qgt f n&&f n):=by unfold qgt;rw [List.range_succ,List.all_append];simp
theorem qd2 (f:Nat→Bool) (n:Nat):qgt f n=true ↔ ∀ i,i<n→f i=true:=by unfold qgt;simp
theorem qxm {f:Nat→Bool} {k n:Nat} (h:f k=false) (hk:k<n):qgt f n=false:=by
 cases he:qgt f n
 ·rfl
 ·have:=(qd2 f n).1 he k hk
  rw [h] at this
  cases this
def qip (l:List Int) (i:Nat):Bool:=decide (0≤l.getD i 0)&&decide (l.getD i 0<32)&&(i==0||decide (l.getD (i-1) 0<l.getD i 0))
def qav (l:List Int):Bool:=qgt (qip l) l.length
theorem qkq {α : Type} {l:List α} {k:Nat} {x d : α} (h:l[k]? = some x):l.getD k d=x:=by simp [h]
theorem qyv {S:Nat→Prop} (v:Value) (l:List Int) (w:World) (hv:RInts S w v l) :
  Calls Try.prog 61 #[v] w fun e w'=>e = .returned (.bool (qav l))∧w=w':=by
 obtain ⟨a,cap,rfl,hm⟩:=hv.shape
 have Hhv:=Go.Lib.hid hv;clear hv
 go_enter Try.func61,Try.ntmps61
 go_wp2_with fail
 go_loop [7] (fun i => ∃ k:Nat,k≤l.length∧i = .int .i64 k∧qgt (qip l) k=true) (fun i=>l.length-(intOf i).toNat)
 case atStart=>exact ⟨0,Nat.zero_le _,rfl,rfl⟩
 case round =>
  obtain ⟨k,hk,rfl,ht⟩:=hrel
  by_cases hlt:k<l.length
  ·obtain ⟨x,hx⟩:=qin hlt
   obtain ⟨y,hy⟩:=qin (show k-1<l.length by omega)
   obtain ⟨b,off,rfl,hs,hbs,h0⟩:=Hhv.out.at hx
   obtain ⟨b1,off1,hab,hs1,hbs1,h1⟩:=Hhv.out.at hy
   simp only [Option.some.injEq,Addr.mk.injEq] at hab
   obtain ⟨rfl,rfl,_⟩:=hab
   have hno:(x<0∨32≤x∨(0<k∧x≤y))→qav l=false:=fun h=>qxm (f:=qip l) (k:=k) (by unfold qip;rw [qkq hx,qkq hy];rcases h with h | h | ⟨h,h'⟩<;>simp<;>omega) hlt
   have hyes:0≤x→x<32→(k=0∨y<x)→qgt (qip l) (k+1)=true:=fun h1 h2 h3=>by rw [qmj,ht];unfold qip;rw [qkq hx,qkq hy];rcases h3 with h3 | h3<;>simp [h1,h2,h3]
   have Hhno:=Go.Lib.hid hno;clear hno;have Hhyes:=Go.Lib.hid hyes;clear hyes;have Hht:=Go.Lib.hid ht;clear ht;have Hhx:=Go.Lib.hid hx;clear hx;have Hhy:=Go.Lib.hid hy;clear hy
   by_cases hk0:k=0
   ·subst hk0
    rw [Nat.add_zero] at h0
    by_cases hx0:x<0
    ·go_wp2_with fail
     go_ret
     exact ⟨qbe (Hhno.out (.inl hx0)).symm,rfl⟩
    ·by_cases hx1:32≤x
     ·go_wp2_with fail
      go_ret
      exact ⟨qbe (Hhno.out (.inr (.inl hx1))).symm,rfl⟩
     ·go_wp2_with fail
      go_round
      case rel=>exact ⟨0+1,by omega,by go_num,Hhyes.out (by omega) (by omega) (by omega)⟩
      case measure=>simp [intOf];omega
   ·by_cases hx0:x<0
    ·go_wp2_with fail
     go_ret
     exact ⟨qbe (Hhno.out (.inl hx0)).symm,rfl⟩
    ·by_cases hx1:32≤x
     ·go_wp2_with fail
      go_ret
      exact ⟨qbe (Hhno.out (.inr (.inl hx1))).symm,rfl⟩
     ·by_cases hxy:x≤y
      ·go_wp2_with fail
       go_ret
       exact ⟨qbe (Hhno.out (.inr (.inr ⟨by omega,hxy⟩))).symm,rfl⟩
      ·go_wp2_with fail
       go_round
       case rel=>exact ⟨k+1,by omega,by go_num,Hhyes.out (by omega) (by omega) (by omega)⟩
       case measure=>simp [intOf];omega
  ·have hkl:k=l.length:=by omega
   have HT:qav l=true:=by rw [hkl] at ht;exact ht
   have HHT:=Go.Lib.hid HT;clear HT
   clear ht hkl
   go_wp2_with fail
   go_ret
   exact ⟨qbe HHT.out.symm,rfl⟩
end Go.Proofs.Yteilffoclpgijaa
namespace Go.Proofs.Yteilffoclpgijaa
open Go.RowKit
def qnz (s:Int) (x y:GOp):Bool:=x.key==y.key&&(qas x.key==s&&(x.kind != 1||y.kind != 1))
def qa3 (a b:List GOp) (s:Int):Bool:=a.any fun x=>b.any fun y=>qnz s x y
theorem qxn {α : Type} {l:List α} {k:Nat} {o : α} (f : α → Bool) (h:l[k]? = some o):(l.take (k+1)).any f=((l.take k).any f||f o):=by
 rw [qk4 h,List.any_append];simp
theorem q0y {α : Type} {l:List α} {k:Nat} {o : α} (f : α → Bool) (h:l[k]? = some o) (hs:f o=true):l.any f=true :=
 List.any_eq_true.2 ⟨o,List.mem_of_getElem? h,hs⟩
set_option maxHeartbeats 1000000 in
theorem qtc {S S':Nat→Prop} (v u:Value) (a b:List GOp) (s:Int) (w:World) (hv:ROps S w v a) (hu:ROps S' w u b) :
  Calls Try.prog 54 #[v,u,.int .i64 s] w fun e w'=>e = .returned (.bool (qa3 a b s))∧Below w.heap.size w w':=by
 obtain ⟨aa,cap,rfl,hm⟩:=hv.shape
 obtain ⟨ab,cap2,rfl,hm2⟩:=hu.shape
 have Hhv:=Go.Lib.hid hv;clear hv;have Hhu:=Go.Lib.hid hu;clear hu
 go_enter Try.func54,Try.ntmps54
 go_wp2_with fail
 go_loopw [6,13] (fun v6 i wr => ∃ k:Nat,k≤a.length∧i = .int .i64 k∧v6 = .bool false∧(a.take k).any (fun x=>b.any fun y=>qnz s x y)=false∧Below w.heap.size w wr) (fun _ i _=>a.length-(intOf i).toNat)
 case atStart=>exact ⟨0,Nat.zero_le _,rfl,rfl,rfl,Below.refl _ _⟩
 case round =>
  obtain ⟨k,hk,rfl,rfl,ht,hb⟩:=hrel
  by_cases hlt:k<a.length
  ·obtain ⟨x,hx⟩:=qin hlt
   obtain ⟨bx,offx,rfl,hs,hbs,h0,h1,h2⟩:=(Hhv.out.later hb).at hx
   have HS:=Go.Lib.hid (qxn (fun x=>b.any fun y=>qnz s x y) hx)
   have hno:=q0y (fun x=>b.any fun y=>qnz s x y) hx
   obtain ⟨wo,rfl⟩ : ∃ wo:World,wo=wr:=⟨_,rfl⟩
   obtain ⟨W1,hW1⟩ : ∃ W1,W1=wo.alloc (.cells #[.int .i64 x.kind,.int .i64 x.key,.int .i64 x.n] 65):=⟨_,rfl⟩
   have hb1:Below w.heap.size w W1:=by rw [hW1];exact hb.alloc hb.size _
   have hc0:W1.cell? ⟨wo.heap.size,0,none⟩=some (.int .i64 x.kind):=by rw [hW1];go_simp
   have hc1:W1.cell? ⟨wo.heap.size,1,none⟩=some (.int .i64 x.key):=by rw [hW1];go_simp
   have hsz:wo.heap.size<W1.heap.size:=by rw [hW1];simp
   have Hhx:=Go.Lib.hid hx;clear hx;have Hht:=Go.Lib.hid ht;clear ht;have Hhb:=Go.Lib.hid hb;clear hb;have Hhno:=Go.Lib.hid hno;clear hno;have HhW1:=Go.Lib.hid hW1;clear hW1;have Hhb1:=Go.Lib.hid hb1;clear hb1;have Hhc0:=Go.Lib.hid hc0;clear hc0;have Hhc1:=Go.Lib.hid hc1;clear hc1
   go_wp2_with fail
   rw [← HhW1.out]
   go_loopw [6,19] (fun v6 i wr => ∃ j:Nat,j≤b.length∧i = .int .i64 j∧v6 = .bool false∧(b.take j).any (fun y=>qnz s x y)=false∧Below W1.heap.size W1 wr) (fun _ i _=>b.length-(intOf i).toNat)
   case atStart=>exact ⟨0,Nat.zero_le _,rfl,rfl,rfl,Below.refl _ _⟩
   case round =>
    obtain ⟨j,hj,rfl,rfl,hty,hb2⟩:=hrel
    clear h0 h1 h2 hs hbs
    have hbw:Below w.heap.size w wr:=Hhb1.out.trans (hb2.mono Hhb1.out.size)
    by_cases hjt:j<b.length
    ·obtain ⟨y,hy⟩:=qin hjt
     obtain ⟨bY,offY,rfl,hs,hbs,h0,h1,h2⟩:=(Hhu.out.later hbw).at hy
     have HY:=Go.Lib.hid (qxn (fun y=>qnz s x y) hy)
     have g0:wr.cell? ⟨wo.heap.size,0,none⟩=some (.int .i64 x.kind):=by rw [hb2.cell (p:=⟨wo.heap.size,0,none⟩) hsz];exact Hhc0.out
     have g1:wr.cell? ⟨wo.heap.size,1,none⟩=some (.int .i64 x.key):=by rw [hb2.cell (p:=⟨wo.heap.size,1,none⟩) hsz];exact Hhc1.out
     have hwz:wo.heap.size<wr.heap.size:=Nat.lt_of_lt_of_le hsz hb2.size
     have HB2:=Go.Lib.hid (hb2.alloc hb2.size (.cells #[.int .i64 y.kind,.int .i64 y.key,.int .i64 y.n] 65))
     have Hhy:=Go.Lib.hid hy;clear hy;have Hhty:=Go.Lib.hid hty;clear hty;have Hhbw:=Go.Lib.hid hbw;clear hbw
     clear hb2 hs hbs
     rcases Bool.eq_false_or_eq_true (x.key==y.key) with c1 | c1
     ·rcases Bool.eq_false_or_eq_true (qas x.key==s) with c2 | c2
      ·rcases Bool.eq_false_or_eq_true (x.kind != 1) with c3 | c3
       ·have hw:qnz s x y=true:=by unfold qnz;rw [c1,c2,c3];rfl
        have Hhw:=Go.Lib.hid hw;clear hw
        go_wp2_with (go_at_call 75;refine (qe3 _ _).mono ?_;rintro e w' ⟨rfl,rfl⟩)
        go_ret
        exact ⟨qbe (Hhno.out (q0y (fun y=>qnz s x y) Hhy.out Hhw.out)).symm,Hhb1.out.trans (HB2.out.mono Hhb1.out.size)⟩
       ·rcases Bool.eq_false_or_eq_true (y.kind != 1) with c4 | c4
        ·have hw:qnz s x y=true:=by unfold qnz;rw [c1,c2,c3,c4];rfl
         have Hhw:=Go.Lib.hid hw;clear hw
         go_wp2_with (go_at_call 75;refine (qe3 _ _).mono ?_;rintro e w' ⟨rfl,rfl⟩)
         go_ret
         exact ⟨qbe (Hhno.out (q0y (fun y=>qnz s x y) Hhy.out Hhw.out)).symm,Hhb1.out.trans (HB2.out.mono Hhb1.out.size)⟩
        ·have hw:qnz s x y=false:=by unfold qnz;rw [c1,c2,c3,c4];rfl
         have Hhw:=Go.Lib.hid hw;clear hw
         go_wp2_with (go_at_call 75;refine (qe3 _ _).mono ?_;rintro e w' ⟨rfl,rfl⟩)
         go_roundw
         case rel=>exact ⟨j+1,by omega,by go_num,rfl,by rw [HY.out,Hhty.out,Hhw.out];rfl,HB2.out⟩
         case measure=>simp [intOf];omega
      ·have hw:qnz s x y=false:=by unfold qnz;rw [c1,c2];rfl
       have Hhw:=Go.Lib.hid hw;clear hw
       go_wp2_with (go_at_call 75;refine (qe3 _ _).mono ?_;rintro e w' ⟨rfl,rfl⟩)
       go_roundw
       case rel=>exact ⟨j+1,by omega,by go_num,rfl,by rw [HY.out,Hhty.out,Hhw.out];rfl,HB2.out⟩
       case measure=>simp [intOf];omega
     ·have hw:qnz s x y=false:=by unfold qnz;rw [c1];rfl
      have Hhw:=Go.Lib.hid hw;clear hw
      go_wp2_with (go_at_call 75;refine (qe3 _ _).mono ?_;rintro e w' ⟨rfl,rfl⟩)
      go_roundw
      case rel=>exact ⟨j+1,by omega,by go_num,rfl,by rw [HY.out,Hhty.out,Hhw.out];rfl,HB2.out⟩
      case measure=>simp [intOf];omega
    ·have hkl:j=b.length:=by omega
     have HT:(b.any fun y=>qnz s x y)=false:=by rw [hkl] at hty;simpa using hty
     have HHT:=Go.Lib.hid HT;clear HT;have Hhb2:=Go.Lib.hid hb2;clear hb2;have Hhbw:=Go.Lib.hid hbw;clear hbw
     clear hty hkl
     go_wp2_with fail
     go_roundw
     case rel=>exact ⟨k+1,by omega,by go_num,rfl,by rw [HS.out,Hht.out,HHT.out];rfl,Hhbw.out⟩
     case measure=>simp [intOf];omega
  ·have hkl:k=a.length:=by omega
   have HT:qa3 a b s=false:=by rw [hkl] at ht;simpa [qa3] using ht
   have HHT:=Go.Lib.hid HT;clear HT;have Hhb:=Go.Lib.hid hb;clear hb
   clear ht hkl
   go_wp2_with fail
   go_ret
   exact ⟨qbe HHT.out.symm,Hhb.out⟩
end Go.Proofs.Yteilffoclpgijaa
namespace Go.Proofs.Yteilffoclpgijaa
open Go.RowKit
def qdg (o:GOp):Bool:=decide (1≤o.kind∧o.kind≤3∧0≤o.key∧o.key<8 ∧ -1099511627776≤o.n∧o.n≤1099511627776∧(o.kind=1→o.n=0))
def qqb (l:List GOp) (k:Nat) (j:Int):Bool:=qgt (fun i=>(l.getD i default).key != j) k
def q53 (l:List GOp) (i:Nat):Bool:=qdg (l.getD i default)&&qqb l i (l.getD i default).key
def qap (l:List GOp):Bool:=qgt (q53 l) l.length&&(decide (0<l.length)&&decide (l.length<5))
theorem qyw (l:List GOp) (k:Nat) (j:Int) (o:GOp) (h:l[k]? = some o):qqb l (k+1) j=(qqb l k j&&(o.key != j)):=by
 unfold qqb;rw [qmj,qkq h]
theorem qyx (l:List GOp) (k:Nat) (o:GOp) (h:l[k]? = some o) (hlt:k<l.length) (hb:(qdg o&&qqb l k o.key)=false):qap l=false:=by
 unfold qap;rw [qxm (f:=q53 l) (k:=k) (by unfold q53;rw [qkq h];exact hb) hlt];rfl
set_option maxHeartbeats 1000000 in
theorem qvx {S:Nat→Prop} (v:Value) (l:List GOp) (w:World) (hv:ROps S w v l) :
  Calls Try.prog 60 #[v] w fun e w'=>e = .returned (.bool (qap l))∧Below w.heap.size w w':=by
 obtain ⟨a,cap,rfl,hm⟩:=hv.shape
 have Hhv:=Go.Lib.hid hv;clear hv
 go_enter Try.func60,Try.ntmps60
 go_wp2_with fail
 go_loopw [8] (fun i wr => ∃ k:Nat,k≤l.length∧i = .int .i64 k∧qgt (q53 l) k=true∧Below w.heap.size w wr∧w.heap.size<wr.heap.size ∧
  ∃ cur,wr.heap[w.heap.size]? = some (.cells cur 132 (0,0))∧cur.size=8 ∧ ∀ j:Nat,j<8→cur[j]? = some (.bool (!qqb l k j))) (fun i _=>l.length-(intOf i).toNat)
 case atStart=>exact ⟨0,Nat.zero_le _,rfl,rfl,by (repeat (first | exact Below.refl _ _ | assumption | refine Below.drewN ?_ _ | refine Below.drew ?_ | refine Below.alloc ?_ (by simp<;>omega) _)),by simp,_,heap_alloc_new _ _,rfl,fun j hj=>by
  match j,hj with
  | 0,_ | 1,_ | 2,_ | 3,_ | 4,_ | 5,_ | 6,_ | 7,_=>rfl⟩
 case round =>
  obtain ⟨k,hk,rfl,ht,hb,hsz,cur,hg,hc8,hcur⟩:=hrel
  by_cases hlt:k<l.length
  ·obtain ⟨o,ho⟩:=qin hlt
   obtain ⟨b,off,rfl,hs,hbs,h0,h1,h2⟩:=(Hhv.out.later hb).at ho
   have hno:=qyx l k o ho hlt
   have HB:=Go.Lib.hid (hb.alloc hb.size (.cells #[.int .i64 o.kind,.int .i64 o.key,.int .i64 o.n] 65))
   have hyes:qdg o=true→qqb l k o.key=true→qgt (q53 l) (k+1)=true:=fun h1 h2=>by rw [qmj,ht];unfold q53;rw [qkq ho,h1,h2];rfl
   have Hhno:=Go.Lib.hid hno;clear hno;have Hhyes:=Go.Lib.hid hyes;clear hyes;have Hht:=Go.Lib.hid ht;clear ht;have Hhb:=Go.Lib.hid hb;clear hb
   by_cases b1:o.kind<1
   ·have hz:qdg o=false:=by unfold qdg;simp;omega
    have Hhz:=Go.Lib.hid hz;clear hz;have Hhcur:=Go.Lib.hid hcur;clear hcur;have Hhg:=Go.Lib.hid hg;clear hg;have Hho:=Go.Lib.hid ho;clear ho
    go_wp2_with fail
    go_ret
    exact ⟨qbe (Hhno.out (by rw [Hhz.out];rfl)).symm,HB.out⟩
   ·by_cases b2:3<o.kind
    ·have hz:qdg o=false:=by unfold qdg;simp;omega
     have Hhz:=Go.Lib.hid hz;clear hz;have Hhcur:=Go.Lib.hid hcur;clear hcur;have Hhg:=Go.Lib.hid hg;clear hg;have Hho:=Go.Lib.hid ho;clear ho
     go_wp2_with fail
     go_ret
     exact ⟨qbe (Hhno.out (by rw [Hhz.out];rfl)).symm,HB.out⟩
    ·by_cases b3:o.key<0
     ·have hz:qdg o=false:=by unfold qdg;simp;omega
      have Hhz:=Go.Lib.hid hz;clear hz;have Hhcur:=Go.Lib.hid hcur;clear hcur;have Hhg:=Go.Lib.hid hg;clear hg;have Hho:=Go.Lib.hid ho;clear ho
      go_wp2_with fail
      go_ret
      exact ⟨qbe (Hhno.out (by rw [Hhz.out];rfl)).symm,HB.out⟩
     ·by_cases b4:8≤o.key
      ·have hz:qdg o=false:=by unfold qdg;simp;omega
       have Hhz:=Go.Lib.hid hz;clear hz;have Hhcur:=Go.Lib.hid hcur;clear hcur;have Hhg:=Go.Lib.hid hg;clear hg;have Hho:=Go.Lib.hid ho;clear ho
       go_wp2_with fail
       go_ret
       exact ⟨qbe (Hhno.out (by rw [Hhz.out];rfl)).symm,HB.out⟩
      ·have hkn:((o.key.toNat:Nat):Int)=o.key:=by omega
       have hcell:wr.cell? ⟨w.heap.size,o.key.toNat,none⟩=some (.bool (!qqb l k o.key)):=by
        rw [cell_of_row _ _ _ _ _ _ hg,hcur _ (by omega),hkn]
       have hfz:wr.frozen? ⟨w.heap.size,o.key.toNat,none⟩=false:=frozen_of_row _ _ _ _ _ hg
       generalize hnew:qqb l k o.key=nw at *
       cases nw
       ·have Hhcur:=Go.Lib.hid hcur;clear hcur;have Hhg:=Go.Lib.hid hg;clear hg;have Hho:=Go.Lib.hid ho;clear ho;have Hhkn:=Go.Lib.hid hkn;clear hkn;have Hhnew:=Go.Lib.hid hnew;clear hnew
        go_wp2_with fail
        go_ret
        exact ⟨qbe (Hhno.out (by simp)).symm,HB.out⟩
       ·by_cases b5:o.n < -1099511627776
        ·have hz:qdg o=false:=by unfold qdg;simp;omega
         have Hhz:=Go.Lib.hid hz;clear hz;have Hhcur:=Go.Lib.hid hcur;clear hcur;have Hhg:=Go.Lib.hid hg;clear hg;have Hho:=Go.Lib.hid ho;clear ho;have Hhkn:=Go.Lib.hid hkn;clear hkn;have Hhnew:=Go.Lib.hid hnew;clear hnew
         go_wp2_with fail
         go_ret
         exact ⟨qbe (Hhno.out (by rw [Hhz.out];rfl)).symm,HB.out⟩
        ·by_cases b6:1099511627776<o.n
         ·have hz:qdg o=false:=by unfold qdg;simp;omega
          have Hhz:=Go.Lib.hid hz;clear hz;have Hhcur:=Go.Lib.hid hcur;clear hcur;have Hhg:=Go.Lib.hid hg;clear hg;have Hho:=Go.Lib.hid ho;clear ho;have Hhkn:=Go.Lib.hid hkn;clear hkn;have Hhnew:=Go.Lib.hid hnew;clear hnew
          go_wp2_with fail
          go_ret
          exact ⟨qbe (Hhno.out (by rw [Hhz.out];rfl)).symm,HB.out⟩
         ·have hgo:wr.heap[w.heap.size]? = some (.cells cur 132 (0,0)) → ∃ cur',((wr.setCell ⟨w.heap.size,o.key.toNat,none⟩ (.bool true)).alloc (.cells #[.int .i64 o.kind,.int .i64 o.key,.int .i64 o.n] 65)).heap[w.heap.size]? = some (.cells cur' 132 (0,0))∧cur'.size=8 ∧ ∀ j:Nat,j<8→cur'[j]? = some (.bool (!qqb l (k+1) j)):=fun hg=>by
           refine ⟨cur.setIfInBounds o.key.toNat (.bool true),?_,by simpa using hc8,fun j hj => ?_⟩
           ·rw [Below.heap_alloc _ _ _ (by simpa [World.setCell] using hsz)]
            exact heap_setCell_same _ _ _ _ _ _ hg
           ·rw [qyw l k j o ho]
            by_cases hj2:j=o.key.toNat
            ·subst hj2
             rw [hkn,hnew]
             simp [hc8,hj]
            ·have:(o.key != (j:Int))=true:=by simp;omega
             rw [this,Array.getElem?_setIfInBounds_ne (by omega),hcur j hj]
             simp
          have hbz:Below w.heap.size w ((wr.setCell ⟨w.heap.size,o.key.toNat,none⟩ (.bool true)).alloc (.cells #[.int .i64 o.kind,.int .i64 o.key,.int .i64 o.n] 65)):=(Hhb.out.setCell (by simp) _).alloc (by simpa using Hhb.out.size) _
          have hgo:=hgo hg
          by_cases b7:o.kind=1
          ·have hb7:(o.kind==1)=true:=by simp [b7]
           by_cases b8:o.n=0
           ·have hb8:(o.n != 0)=false:=by simp [b8]
            have hz:qdg o=true:=by unfold qdg;simp;omega
            have Hhz:=Go.Lib.hid hz;clear hz;have Hhcur:=Go.Lib.hid hcur;clear hcur;have Hhg:=Go.Lib.hid hg;clear hg;have Hho:=Go.Lib.hid ho;clear ho;have Hhkn:=Go.Lib.hid hkn;clear hkn;have Hhnew:=Go.Lib.hid hnew;clear hnew;have Hb7:=Go.Lib.hid b7;clear b7;have Hb8:=Go.Lib.hid b8;clear b8;have Hhgo:=Go.Lib.hid hgo;clear hgo;have Hhbz:=Go.Lib.hid hbz;clear hbz
            go_wp2_with fail
            go_roundw
            case rel=>exact ⟨k+1,by omega,by go_num,Hhyes.out Hhz.out rfl,Hhbz.out,by simp;omega,Hhgo.out⟩
            case measure=>simp [intOf];omega
           ·have hb8:(o.n != 0)=true:=by simp [b8]
            have hz:qdg o=false:=by unfold qdg;simp;omega
            have Hhz:=Go.Lib.hid hz;clear hz;have Hhcur:=Go.Lib.hid hcur;clear hcur;have Hhg:=Go.Lib.hid hg;clear hg;have Hho:=Go.Lib.hid ho;clear ho;have Hhkn:=Go.Lib.hid hkn;clear hkn;have Hhnew:=Go.Lib.hid hnew;clear hnew;have Hb7:=Go.Lib.hid b7;clear b7;have Hb8:=Go.Lib.hid b8;clear b8;have Hhgo:=Go.Lib.hid hgo;clear hgo;have Hhbz:=Go.Lib.hid hbz;clear hbz
            go_wp2_with fail
            go_ret
            exact ⟨qbe (Hhno.out (by rw [Hhz.out];rfl)).symm,HB.out⟩
          ·have hb7:(o.kind==1)=false:=by simp [b7]
           have hz:qdg o=true:=by unfold qdg;simp;omega
           have Hhz:=Go.Lib.hid hz;clear hz;have Hhcur:=Go.Lib.hid hcur;clear hcur;have Hhg:=Go.Lib.hid hg;clear hg;have Hho:=Go.Lib.hid ho;clear ho;have Hhkn:=Go.Lib.hid hkn;clear hkn;have Hhnew:=Go.Lib.hid hnew;clear hnew;have Hb7:=Go.Lib.hid b7;clear b7;have Hhgo:=Go.Lib.hid hgo;clear hgo;have Hhbz:=Go.Lib.hid hbz;clear hbz
           go_wp2_with fail
           go_roundw
           case rel=>exact ⟨k+1,by omega,by go_num,Hhyes.out Hhz.out rfl,Hhbz.out,by simp;omega,Hhgo.out⟩
           case measure=>simp [intOf];omega
  ·have hkl:k=l.length:=by omega
   have HT:qap l=(decide (0<l.length)&&decide (l.length<5)):=by rw [hkl] at ht;unfold qap;rw [ht];rfl
   have HHT:=Go.Lib.hid HT;clear HT;have Hhb:=Go.Lib.hid hb;clear hb;have Hhcur:=Go.Lib.hid hcur;clear hcur;have Hhg:=Go.Lib.hid hg;clear hg
   clear ht hkl
   by_cases c1:0<l.length
   ·by_cases c2:l.length<5
    ·go_wp2_with fail
     go_ret
     exact ⟨qbe (by rw [HHT.out];simp [c1,c2]<;>omega),Hhb.out⟩
    ·go_wp2_with fail
     go_ret
     exact ⟨qbe (by rw [HHT.out];simp [c1,c2]<;>omega),Hhb.out⟩
   ·go_wp2_with fail
    go_ret
    exact ⟨qbe (by rw [HHT.out];simp [c1]<;>omega),Hhb.out⟩
end Go.Proofs.Yteilffoclpgijaa
namespace Go.Proofs.Yteilffoclpgijaa
open Go.RowKit
structure GFrame where
 kind:Int
 node:Int
 id:Int
 ops:List GOp
 deps:List Int
 at_:List Int
 vals:List Int
def q3l (l:List Int) (i:Nat):Bool:=decide (0≤l.getD i 0)&&decide (l.getD i 0<4)&&(i==0||decide (l.getD (i-1) 0<l.getD i 0))
def qvy (l:List Int) (i:Nat):Bool:=decide (-1099511627776≤l.getD i 0)&&decide (l.getD i 0≤1099511627776)
def qfe (f:GFrame):Bool:=if f.kind=1∨f.kind=3 then qap f.ops else f.ops.length==0
def qdp (f:GFrame):Bool:=if f.kind=2∨f.kind=3 then qav f.deps && !qcp f.deps f.id else f.deps.length==0
def qiq (f:GFrame):Bool:=(f.kind==5||f.at_.length==0)&&(f.at_.length==f.vals.length&&(qgt (q3l f.at_) f.at_.length&&qgt (qvy f.vals) f.vals.length))
def qak (f:GFrame):Int :=
 if f.kind<1∨5<f.kind then 3 else if f.node<0∨6≤f.node∨f.id<0∨32≤f.id then 2
 else if (qfe f&&(qdp f&&qiq f))=true then 0 else 1
theorem qir {f:GFrame} (h1 : ¬ (f.kind<1∨5<f.kind)) (h2 : ¬ (f.node<0∨6≤f.node∨f.id<0∨32≤f.id)) (h:(qfe f&&(qdp f&&qiq f))=true):qak f=0:=by
 unfold qak;rw [if_neg h1,if_neg h2,if_pos h]
def RFrame (S:Nat→Prop) (w:World) (cs:Array Value) (f:GFrame):Prop :=
 ∃ vo vd va vv,cs = #[.int .i64 f.kind,.int .i64 f.node,.int .i64 f.id,vo,vd,va,vv]∧ROps S w vo f.ops∧RInts S w vd f.deps∧RInts S w va f.at_∧RInts S w vv f.vals
theorem RFrame.later {S:Nat→Prop} {w w':World} {cs:Array Value} {f:GFrame} (h:RFrame S w cs f) (hb:Below w.heap.size w w'):RFrame S w' cs f:=by
 obtain ⟨vo,vd,va,vv,h0,h1,h2,h3,h4⟩:=h
 exact ⟨vo,vd,va,vv,h0,h1.later hb,h2.later hb,h3.later hb,h4.later hb⟩
theorem q0z {S:Nat→Prop} (v:Value) (l:List Int) (n:Int) (w:World) (hv:RInts S w v l) :
  Calls Try.prog 77 #[v,.int .i64 n] w fun e w'=>(∃ i:Int,e = .returned (.int .i64 i)∧(decide (0≤i))=qcp l n)∧w=w':=by
 obtain ⟨a,cap,rfl,hm⟩:=hv.shape
 have HV:=Go.Lib.hid hv
 clear hv
 go_enter Try.func77,Try.ntmps77
 go_wp2_with fail
 go_loop [4,5,8] (fun v4 v5 i => ∃ k:Nat,k≤l.length∧i = .int .i64 k∧qcp (l.take k) n=false) (fun _ _ i=>l.length-(intOf i).toNat)
 case atStart=>exact ⟨0,Nat.zero_le _,rfl,rfl⟩
 case round =>
  obtain ⟨k,hk,rfl,ht⟩:=hrel
  by_cases hlt:k<l.length
  ·obtain ⟨x,hx⟩:=qin hlt
   obtain ⟨b,off,rfl,hs,hbs,hc⟩:=HV.out.at hx
   have HX:=Go.Lib.hid (qk4 hx)
   have HT:=Go.Lib.hid ht
   have HX2:=Go.Lib.hid hx
   clear ht hx
   by_cases hxn:n=x
   ·have hb:(n==x)=true:=by simp [hxn]
    have HN:=Go.Lib.hid hxn
    clear hxn
    go_wp2_with fail
    go_ret
    exact ⟨⟨k,rfl,by unfold qcp;rw [List.any_eq_true.2 ⟨x,List.mem_of_getElem? HX2.out,by simpa using HN.out.symm⟩];simp⟩,rfl⟩
   ·have hb:(n==x)=false:=by simp [hxn]
    have HN:=Go.Lib.hid hxn
    clear hxn
    go_wp2_with fail
    go_round
    case rel=>exact ⟨k+1,by omega,by go_num,by rw [HX.out];unfold qcp;rw [List.any_append];simp only [qcp] at HT;rw [HT.out];simpa using fun h=>HN.out h.symm⟩
    case measure=>simp [intOf];omega
  ·have hkl:k=l.length:=by omega
   have HT:qcp l n=false:=by rw [hkl] at ht;simpa using ht
   have HT2:=Go.Lib.hid HT
   clear ht HT hkl
   go_wp2_with fail
   go_ret
   exact ⟨⟨-1,rfl,by rw [HT2.out];decide⟩,rfl⟩
theorem qtd {S:Nat→Prop} (v:Value) (l:List Int) (n:Int) (w:World) (hv:RInts S w v l) :
  Calls Try.prog 62 #[v,.int .i64 n] w fun e w'=>e = .returned (.bool (qcp l n))∧w=w':=by
 go_enter Try.func62,Try.ntmps62
 go_wp2_with fail
 refine (q0z _ l n _ hv).mono ?_
 rintro e w' ⟨⟨i,rfl,hi⟩,rfl⟩
 have HI:=Go.Lib.hid hi
 clear hi
 go_wp2_with fail
 go_ret
 exact ⟨qbe HI.out,rfl⟩
end Go.Proofs.Yteilffoclpgijaa
