/- A walk over frames as functions: regions, in order or drawn. Nothing of the program is named here. -/
import Derived.Test.YtopgdemmdcipcaaDa
namespace Go.Proofs.Ytopgdemmdcipcaa
open Go.RowKit

section
variable {P : Program} {n : Nat} {Q : Exit → Tm → World → Prop} {T : Tm} {w : World} {ops : Array Oper} {rest : List Oper} {o : Oper}

/-- One operation, what stands behind it a letter. -/
def OW (P : Program) (n : Nat) (Q : Exit → Tm → World → Prop) (o : Oper) (T : Tm) (w : World) (K : Tm → World → Prop) : Prop :=
  operOk n o = true → ∀ a, Fr n T a → o.wp P a w (fun a' w' => ∃ T', Fr n T' a' ∧ K T' w') (Qx n Q)

/-- A value, in every world of S, that is left as it is. -/
def YV (P : Program) (S : World → Prop) (T : Tm) (o : Oper) (v : Value) : Prop := ∀ w, S w → (execOp (evT T) o).run P w = .ok (.value v) w

def WL (P : Program) (n : Nat) (ops : Array Oper) (Q : Exit → Tm → World → Prop) (l : List Oper) (T : Tm) (w : World) : Prop :=
  l.all (operOk n) = true → ∀ a, Fr n T a → wpList P ops (Qx n Q) l a w

theorem W_reg {id : Nat} {l : List Oper} (h : WL P n l.toArray Q l T w) : W P n (.region id l.toArray false) Q T w := by
  intro hok a ha
  exact wp_region_lit (h (by simpa [codeOk] using hok) a ha)

theorem WL_nil (h : Q .normal T w) : WL P n ops Q [] T w := fun _ _ ha => wpList_nil ⟨T, ha, h⟩

theorem WL_cons (hg : ∀ a, Fr n T a → Region.wanted o (yielded ops a.tmps) = true) (h : OW P n Q o T w (WL P n ops Q rest)) : WL P n ops Q (o :: rest) T w := by
  intro hok a ha
  simp only [List.all_cons, Bool.and_eq_true] at hok
  refine wpList_step fun K hK => ?_
  rw [if_pos (hg a ha)]
  exact Oper.wp_mono (fun a' w' ⟨T', hf, hw⟩ => hK a' w' (hw hok.2 a' hf)) (h hok.1 a ha)

theorem OW.of_val {S : World → Prop} {v : Value} {K : Tm → World → Prop} (h : YV P S T o v) (hS : S w) (k : K (updO T o.dst v) w) : OW P n Q o T w K := by
  intro hok a ha
  unfold Oper.wp
  rw [ha.eval, h w hS]
  exact ⟨_, ha.put o.dst v (operOk.lt hok), k⟩

/-- The next operation, without a guard. -/
theorem WL_c {d : Option Nat} {op : Op} {ty : TypeId} {pos : String} {af : Array Edge} (h : OW P n Q ⟨d, op, ty, pos, af, none⟩ T w (WL P n ops Q rest)) : WL P n ops Q (⟨d, op, ty, pos, af, none⟩ :: rest) T w :=
  WL_cons (fun _ _ => rfl) h
theorem WL_y {d : Nat} {op : Op} {ty : TypeId} {pos : String} {af : Array Edge} {v : Value} (h : YV P (· = w) T ⟨some d, op, ty, pos, af, none⟩ v) (k : WL P n ops Q rest (upd T d v) w) : WL P n ops Q (⟨some d, op, ty, pos, af, none⟩ :: rest) T w :=
  WL_c (OW.of_val h rfl k)

theorem wanted_of {d : Option Nat} {op : Op} {ty : TypeId} {pos : String} {af : Array Edge} {j : Nat} {b b' : Bool} {t : Nat} {a : Act} (hf : Fr n T a) (hj : (ops[j]?).bind (·.dst) = some t) (hT : T t = .bool b) :
    Region.wanted ⟨d, op, ty, pos, af, some (j, b')⟩ (yielded ops a.tmps) = (b == b') := by
  simp only [Region.wanted, yielded]
  rw [hj]
  have h := hf.2.2 t
  rw [hT] at h
  rw [Array.getD_eq_getD_getElem?] at h
  cases hx : a.tmps[t]? with
  | none => rw [hx] at h; simp [undef] at h
  | some v =>
    rw [hx] at h
    simp only [Option.getD_some] at h
    subst h
    simp [hx]

/-- The next operation, with a guard that lets it. -/
theorem WL_g {d : Option Nat} {op : Op} {ty : TypeId} {pos : String} {af : Array Edge} {j t : Nat} {b : Bool} (hj : (ops[j]?).bind (·.dst) = some t) (hT : T t = .bool b) (h : OW P n Q ⟨d, op, ty, pos, af, some (j, b)⟩ T w (WL P n ops Q rest)) :
    WL P n ops Q (⟨d, op, ty, pos, af, some (j, b)⟩ :: rest) T w :=
  WL_cons (fun _ ha => by rw [wanted_of ha hj hT]; simp) h
theorem WL_gy {d : Nat} {op : Op} {ty : TypeId} {pos : String} {af : Array Edge} {v : Value} {j t : Nat} {b : Bool} (hj : (ops[j]?).bind (·.dst) = some t) (hT : T t = .bool b) (h : YV P (· = w) T ⟨some d, op, ty, pos, af, some (j, b)⟩ v) (k : WL P n ops Q rest (upd T d v) w) :
    WL P n ops Q (⟨some d, op, ty, pos, af, some (j, b)⟩ :: rest) T w :=
  WL_g hj hT (OW.of_val h rfl k)
/-- The next operation, with a guard that does not let it. -/
theorem WL_s {d : Option Nat} {op : Op} {ty : TypeId} {pos : String} {af : Array Edge} {j t : Nat} {b b' : Bool} (hj : (ops[j]?).bind (·.dst) = some t) (hT : T t = .bool b) (hb : (b == b') = false) (k : WL P n ops Q rest (updO T d undef) w) :
    WL P n ops Q (⟨d, op, ty, pos, af, some (j, b')⟩ :: rest) T w := by
  intro hok a ha
  simp only [List.all_cons, Bool.and_eq_true] at hok
  refine wpList_step fun K hK => ?_
  rw [if_neg (by rw [wanted_of ha hj hT, hb]; simp)]
  exact hK _ _ (k hok.2 _ (ha.put d undef (operOk.lt hok.1)))

/-! Regions that draw their order. -/

def WH (P : Program) (n : Nat) (ops : Array Oper) (Q : Exit → Tm → World → Prop) (S : World → Prop) (fuel : Nat) (listed : Array Bool) (T : Tm) (w : World) : Prop :=
  ops.toList.all (operOk n) = true → ∀ a, Fr n T a → wpAnyH P .any ops (Qx n Q) S fuel listed a w

theorem W_draw {id : Nat} {l : List Oper} (S : World → Prop) (hm : P.follows .mixedOrders = true) (h : ∀ w', w' = w.drew → WH P n l.toArray Q S l.length (List.replicate l.length false).toArray T w') : W P n (.region id l.toArray true) Q T w := by
  intro hok a ha
  refine wp_region_held (S := S) hm ?_
  have h1 := h w.drew rfl (by simpa only [codeOk] using hok) a ha
  rw [List.toArray_replicate] at h1
  exact h1

theorem WH_done {S : World → Prop} {f : Nat} {listed : Array Bool} (hr : Region.ready .any ops listed = []) (h : Q .normal T w) : WH P n ops Q S f listed T w :=
  fun _ _ ha => wpAnyH_done hr ⟨T, ha, h⟩ _

theorem ops_ok {i : Nat} (hi : ops[i]? = some o) (hok : ops.toList.all (operOk n) = true) : operOk n o = true := by
  rw [List.all_eq_true] at hok
  refine hok o ?_
  rw [Array.mem_toList_iff]
  exact Array.mem_of_getElem? hi

/-- Take a quiet operation first. -/
theorem WH_y {S : World → Prop} {i f d : Nat} {op : Op} {ty : TypeId} {pos : String} {af : Array Edge} {v : Value} {listed listed' : Array Bool} (hi : ops[i]? = some ⟨some d, op, ty, pos, af, none⟩)
    (hs : (Region.noSelect ops && Region.free .any ops listed i && (Region.ready .any ops listed).contains i) = true) (hl : listed.setIfInBounds i true = listed')
    (h : YV P S T ⟨some d, op, ty, pos, af, none⟩ v) (hS : S w) (k : WH P n ops Q S f listed' (upd T d v) w) : WH P n ops Q S (f + 1) listed T w := by
  intro hok a ha
  simp only [Bool.and_eq_true] at hs
  refine wpAnyH_take (v := v) hi hs.1.1 hs.1.2 hs.2 (fun c a w h => h) (.inl ⟨rfl, fun w' hw' => ?_⟩) hS ?_
  · rw [ha.eval]; exact h w' hw'
  · rw [hl]
    exact k hok _ (ha.put (some d) v (operOk.lt (ops_ok hi hok)))

/-- Take a quiet operation with a guard that lets it first. -/
theorem WH_gy {S : World → Prop} {i f d j t : Nat} {b : Bool} {op : Op} {ty : TypeId} {pos : String} {af : Array Edge} {v : Value} {listed listed' : Array Bool} (hi : ops[i]? = some ⟨some d, op, ty, pos, af, some (j, b)⟩)
    (hs : (Region.noSelect ops && Region.free .any ops listed i && (Region.ready .any ops listed).contains i) = true) (hl : listed.setIfInBounds i true = listed')
    (hj : (ops[j]?).bind (·.dst) = some t) (hT : T t = .bool b)
    (h : YV P S T ⟨some d, op, ty, pos, af, some (j, b)⟩ v) (hS : S w) (k : WH P n ops Q S f listed' (upd T d v) w) : WH P n ops Q S (f + 1) listed T w := by
  intro hok a ha
  simp only [Bool.and_eq_true] at hs
  refine wpAnyH_take (v := v) hi hs.1.1 hs.1.2 hs.2 (fun c a w h => h) (.inl ⟨?_, fun w' hw' => ?_⟩) hS ?_
  · rw [wanted_of ha hj hT]; simp
  · rw [ha.eval]; exact h w' hw'
  · rw [hl]
    exact k hok _ (ha.put (some d) v (operOk.lt (ops_ok hi hok)))

/-- Pass by an operation whose guard does not let it. -/
theorem WH_s {S : World → Prop} {i f j t : Nat} {d : Option Nat} {b b' : Bool} {op : Op} {ty : TypeId} {pos : String} {af : Array Edge} {listed listed' : Array Bool} (hi : ops[i]? = some ⟨d, op, ty, pos, af, some (j, b')⟩)
    (hs : (Region.noSelect ops && Region.free .any ops listed i && (Region.ready .any ops listed).contains i) = true) (hl : listed.setIfInBounds i true = listed')
    (hj : (ops[j]?).bind (·.dst) = some t) (hT : T t = .bool b) (hb : (b == b') = false) (hS : S w)
    (k : WH P n ops Q S f listed' (updO T d undef) w) : WH P n ops Q S (f + 1) listed T w := by
  intro hok a ha
  simp only [Bool.and_eq_true] at hs
  refine wpAnyH_take (v := undef) hi hs.1.1 hs.1.2 hs.2 (fun c a w h => h) (.inr ⟨?_, rfl⟩) hS ?_
  · rw [wanted_of ha hj hT]; exact hb
  · rw [hl]
    exact k hok _ (ha.put d undef (operOk.lt (ops_ok hi hok)))

/-- The operations that may come up now. -/
theorem WH_all {S : World → Prop} {rs : List Nat} {f : Nat} {listed : Array Bool} (hr : Region.ready .any ops listed = rs) (hne : rs ≠ [])
    (h : ∀ i ∈ rs, ∃ o, ops[i]? = some o ∧ (∀ a, Fr n T a → Region.wanted o (yielded ops a.tmps) = true) ∧ OW P n Q o T w (fun T' w' => S w' ∧ WH P n ops Q S f (listed.setIfInBounds i true) T' w')) : WH P n ops Q S (f + 1) listed T w := by
  intro hok a ha
  refine wpAnyH_all hr hne fun i hi => ?_
  obtain ⟨o, ho, hg, hw⟩ := h i hi
  unfold wpOp
  rw [ho]
  simp only [hg a ha, if_true]
  refine .inl (Oper.wp_mono ?_ (hw (ops_ok ho hok) a ha))
  intro a' w' ⟨T', hf, hS, hk⟩
  exact ⟨hS, hk hok a' hf⟩

/-- One operation alone may come up now. -/
theorem WH_one {S : World → Prop} {i f : Nat} {d : Option Nat} {op : Op} {ty : TypeId} {pos : String} {af : Array Edge} {listed listed' : Array Bool} (hr : Region.ready .any ops listed = [i]) (hi : ops[i]? = some ⟨d, op, ty, pos, af, none⟩)
    (hl : listed.setIfInBounds i true = listed') (h : OW P n Q ⟨d, op, ty, pos, af, none⟩ T w (fun T' w' => S w' ∧ WH P n ops Q S f listed' T' w')) : WH P n ops Q S (f + 1) listed T w :=
  WH_all hr (by simp) fun j hj => by
    simp only [List.mem_singleton] at hj
    subst hj
    exact ⟨_, hi, fun _ _ => rfl, by rw [hl]; exact h⟩
theorem WH_one_g {S : World → Prop} {i f j t : Nat} {b : Bool} {d : Option Nat} {op : Op} {ty : TypeId} {pos : String} {af : Array Edge} {listed listed' : Array Bool} (hr : Region.ready .any ops listed = [i]) (hi : ops[i]? = some ⟨d, op, ty, pos, af, some (j, b)⟩)
    (hj : (ops[j]?).bind (·.dst) = some t) (hT : T t = .bool b)
    (hl : listed.setIfInBounds i true = listed') (h : OW P n Q ⟨d, op, ty, pos, af, some (j, b)⟩ T w (fun T' w' => S w' ∧ WH P n ops Q S f listed' T' w')) : WH P n ops Q S (f + 1) listed T w :=
  WH_all hr (by simp) fun i' hi' => by
    simp only [List.mem_singleton] at hi'
    subst hi'
    exact ⟨_, hi, fun _ ha => by rw [wanted_of ha hj hT]; simp, by rw [hl]; exact h⟩
/-- One of two may come up now. -/
theorem WH_two {S : World → Prop} {i j f : Nat} {d d' : Option Nat} {op op' : Op} {ty ty' : TypeId} {pos pos' : String} {af af' : Array Edge} {listed l1 l2 : Array Bool} (hr : Region.ready .any ops listed = [i, j]) (hi : ops[i]? = some ⟨d, op, ty, pos, af, none⟩) (hj : ops[j]? = some ⟨d', op', ty', pos', af', none⟩)
    (hl1 : listed.setIfInBounds i true = l1) (hl2 : listed.setIfInBounds j true = l2) (h1 : OW P n Q ⟨d, op, ty, pos, af, none⟩ T w (fun T' w' => S w' ∧ WH P n ops Q S f l1 T' w'))
    (h2 : OW P n Q ⟨d', op', ty', pos', af', none⟩ T w (fun T' w' => S w' ∧ WH P n ops Q S f l2 T' w')) : WH P n ops Q S (f + 1) listed T w :=
  WH_all hr (by simp) fun k hk => by
    simp only [List.mem_cons, List.not_mem_nil, or_false] at hk
    rcases hk with rfl | rfl
    · exact ⟨_, hi, fun _ _ => rfl, by rw [hl1]; exact h1⟩
    · exact ⟨_, hj, fun _ _ => rfl, by rw [hl2]; exact h2⟩

end

/-- The call of a function, out of a walk of its body. -/
def resT (fn : Func) (T : Tm) : Array Value := fn.results.map fun | .tmp t => T t | .cell a _ => T a

theorem calls_of_W {P : Program} {f : FuncId} {fn : Func} {c : Code} {args : Array Value} {w : World} {R : Ending → World → Prop} (hf : P.funcs[f]? = some fn) (hb : fn.body = some c) (hn : args.size ≤ fn.ntmps) (hok : codeOk fn.ntmps c = true)
    (h : ∀ T : Tm, (∀ k, T k = (args ++ Array.replicate (fn.ntmps - args.size) undef).getD k undef) → W P fn.ntmps c (fun e T w => match e with | .normal | .ret => ∀ tmps : Array Value, (∀ k, tmps.getD k undef = T k) → ∃ v, (results fn tmps).run P w = .ok v w ∧ R (.returned v) w | _ => False) T w) :
    Calls P f args w R := by
  refine calls_of_wp hf hb ?_
  refine wp_mono (h _ (fun _ => rfl) hok _ ⟨by simp; omega, rfl, fun _ => rfl⟩) ?_
  intro e a w' hq
  cases e <;> simp only [Qx] at hq <;> first | exact hq.elim | skip
  · obtain ⟨T, hf, hx⟩ := hq
    obtain ⟨v, h1, h2⟩ := hx _ hf.2.2
    exact ⟨hf.2.1, v, h1, h2⟩
  · obtain ⟨T, hf, hx⟩ := hq
    exact hx.elim
  · obtain ⟨T, hf, hx⟩ := hq
    exact hx.elim
  · obtain ⟨T, hf, hx⟩ := hq
    obtain ⟨v, h1, h2⟩ := hx _ hf.2.2
    exact ⟨hf.2.1, v, h1, h2⟩

end Go.Proofs.Ytopgdemmdcipcaa
