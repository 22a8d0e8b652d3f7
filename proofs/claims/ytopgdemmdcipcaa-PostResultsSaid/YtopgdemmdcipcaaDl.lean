/- Regions that draw their order, whose loads come ahead of whatever writes what they read. Nothing of the program is named here. -/
import Derived.Test.YtopgdemmdcipcaaDj
namespace Go.Proofs.Ytopgdemmdcipcaa
open Go.RowKit
open Rep (rep)

section
variable {P : Program} {ops : Array Oper} {Q : Exit → Act → World → Prop} {md : Region.Mode} {S : World → Prop} {B : Nat → Bool}

def noB (B : Nat → Bool) (L : Array Bool) : Prop := ∀ b, B b = true → L.getD b true = false
theorem noB_set {L : Array Bool} {i : Nat} (h : B i = false) : noB B (L.setIfInBounds i true) ↔ noB B L := by
  constructor
  · intro hn b hb
    have := hn b hb
    by_cases e : i = b
    · subst e; rw [h] at hb; cases hb
    · rwa [getD_set_ne true e] at this
  · intro hn b hb
    by_cases e : i = b
    · subst e; rw [h] at hb; cases hb
    · rw [getD_set_ne true e]; exact hn b hb

/-- Whatever order is picked from here on; S holds as long as no operation of B has come up. -/
def wpAnyB (P : Program) (md : Region.Mode) (ops : Array Oper) (Q : Exit → Act → World → Prop) (S : World → Prop) (B : Nat → Bool) : Nat → Array Bool → Act → World → Prop
  | 0, listed, a, w => Region.ready md ops listed = [] ∧ Q .normal a w
  | fuel + 1, listed, a, w =>
    (Region.ready md ops listed = [] → Q .normal a w) ∧
    ∀ i ∈ Region.ready md ops listed, wpOp P ops Q i (fun a' w' => (noB B (listed.setIfInBounds i true) → S w') ∧ wpAnyB P md ops Q S B fuel (listed.setIfInBounds i true) a' w') a w

theorem wpAny_of_B : ∀ (fuel : Nat) (listed : Array Bool) (a : Act) (w : World), wpAnyB P md ops Q S B fuel listed a w → wpAny P md ops Q fuel listed a w
  | 0, _, _, _, h => h
  | fuel + 1, _, _, _, h => ⟨h.1, fun i hi => wpOp_mono (fun a' w' h' => wpAny_of_B fuel _ a' w' h'.2) (h.2 i hi)⟩

/-- Does number j wait for number i? -/
def waits (md : Region.Mode) (ops : Array Oper) (i j : Nat) : Bool := ((ops[j]?).map fun o => o.after.any fun e => Region.binds md e && e.on == i).getD false

theorem wpAnyB_first {S' : World → Prop} {i : Nat} {oi : Oper} {v : Value} (hi : ops[i]? = some oi) (hsel : ∀ (j : Nat) (o : Oper) cs b, ops[j]? = some o → o.op ≠ .select cs b)
    (hQ : ∀ c a w, Q (.panic c) (a.put oi.dst v) w → Q (.panic c) a w) (hBi : B i = false) (hB : (∀ w, S' w) ∨ ((∀ w, S w → S' w) ∧ ∀ j, B j = true → waits md ops i j = true)) :
    ∀ (fuel : Nat) (listed : Array Bool) (a : Act) (w : World),
      (∀ j oj, ops[j]? = some oj → j ≠ i → listed.getD j true = false → (∀ e ∈ oj.after, Region.binds md e = true → e.on ≠ i) → oi.apart ops oj = true) →
      i ∈ Region.ready md ops listed → YieldsIf P ops S' oi v a → S' w → ((∀ w, S' w) ∨ noB B listed) → (noB B listed → S w) →
      wpAnyB P md ops Q S B fuel (listed.setIfInBounds i true) (a.put oi.dst v) w → wpAnyB P md ops Q S B (fuel + 1) listed a w := by
  intro fuel
  induction fuel with
  | zero =>
    intro listed a w _ hr hy hS _ hSi H
    refine ⟨fun h => (by rw [h] at hr; cases hr), fun j hj => ?_⟩
    by_cases hji : j = i
    · subst hji; exact hy.wpOp hi hS ⟨fun hn => hSi ((noB_set hBi).1 hn), H⟩
    · have := ready_mono hj hji
      rw [H.1] at this
      cases this
  | succ fuel ih =>
    intro listed a w hfree hr hy hS hN hSi H
    refine ⟨fun h => (by rw [h] at hr; cases hr), fun j hj => ?_⟩
    by_cases hji : j = i
    · subst hji; exact hy.wpOp hi hS ⟨fun hn => hSi ((noB_set hBi).1 hn), H⟩
    · have h1 := H.2 j (ready_mono hj hji)
      obtain ⟨hjun, oj, hoj, hall⟩ := mem_ready.1 hj
      have hnot : ∀ e ∈ oj.after, Region.binds md e = true → e.on ≠ i := fun e he hb heq => by
        have h1 := hall e he hb
        have h0 := (mem_ready.1 hr).1
        rw [heq] at h1
        rcases Nat.lt_or_ge i listed.size with h' | h'
        · simp [h'] at h0 h1; rw [h0] at h1; cases h1
        · simp [Array.getElem?_eq_none h'] at h1
      have hBj : (∀ w, S' w) ∨ B j = false := by
        rcases hB with h | ⟨_, h⟩
        · exact .inl h
        · refine .inr ?_
          cases hb : B j with
          | false => rfl
          | true =>
            have hw := h j hb
            simp only [waits, hoj, Option.map_some, Option.getD_some, Array.any_eq_true, Bool.and_eq_true, beq_iff_eq] at hw
            obtain ⟨q, hq, hbq, hon⟩ := hw
            exact absurd hon (hnot _ (Array.getElem_mem hq) hbq)
      have h2 := wpOp_putIf hoj (hfree j oj hoj hji hjun hnot) (fun cs b => hsel i oi cs b hi) (fun cs b => hsel j oj cs b hoj) hQ hy h1
      have hfree' : ∀ k ok, ops[k]? = some ok → k ≠ i → (listed.setIfInBounds j true).getD k true = false →
          (∀ e ∈ ok.after, Region.binds md e = true → e.on ≠ i) → oi.apart ops ok = true := fun k ok hk hki hun hno => by
        refine hfree k ok hk hki ?_ hno
        by_cases hjk : j = k
        · subst hjk; exact hjun
        · rw [getD_set_ne true hjk] at hun; exact hun
      have hcomm : (listed.setIfInBounds i true).setIfInBounds j true = (listed.setIfInBounds j true).setIfInBounds i true := Array.setIfInBounds_comm _ _ (Ne.symm hji)
      refine wpOp_mono (fun a' w' h3 => ?_) h2
      have hSj : noB B (listed.setIfInBounds j true) → S w' := fun hn => h3.2.1 (by rw [hcomm]; exact (noB_set hBi).2 hn)
      have hN' : (∀ w, S' w) ∨ noB B (listed.setIfInBounds j true) := by
        rcases hBj with h | h
        · exact .inl h
        · rcases hN with h' | h'
          · exact .inl h'
          · exact .inr ((noB_set h).2 h')
      refine ⟨hSj, ih (listed.setIfInBounds j true) a' w' hfree' (ready_mono hr (Ne.symm hji)) h3.1 ?_ hN' hSj ?_⟩
      · rcases hN' with h | h
        · exact h w'
        · rcases hB with h' | ⟨h', _⟩
          · exact h' w'
          · exact h' w' (hSj h)
      · rw [← hcomm]
        exact h3.2.2

theorem wp_region_B {id : Nat} {a : Act} {w : World} (hm : P.follows .mixedOrders = true)
    (h : wpAnyB P .any ops Q S B ops.size (Array.replicate ops.size false) a { w with drawn := w.drawn + 1 }) : (Code.region id ops true).wp P Q a w :=
  wp_region_any hm (wpAny_of_B _ _ _ _ h)
end

/-! The same over frames as functions, for operations that are written out. -/
section
variable {P : Program} {n : Nat} {Q : Exit → Tm → World → Prop} {T : Tm} {w w0 : World} {X : Nat → Prop} {M : Mm} {H : List Ent} {l : List Oper} {S : World → Prop} {B : Nat → Bool}

def WB (P : Program) (n : Nat) (l : List Oper) (Q : Exit → Tm → World → Prop) (S : World → Prop) (B : Nat → Bool) (fuel : Nat) (L : List Bool) (T : Tm) (w : World) : Prop :=
  l.all (operOk n) = true → ∀ a, Fr n T a → wpAnyB P .any l.toArray (Qx n Q) S B fuel L.toArray a w

theorem W_drawB {id : Nat} (S : World → Prop) (B : Nat → Bool) (hm : P.follows .mixedOrders = true) (hSt : St w0 X M H w) (h : ∀ w', St w0 X M H w' → WB P n l Q S B l.length (List.replicate l.length false) T w') : W P n (.region id l.toArray true) Q T w := by
  intro hok a ha
  refine wp_region_B (S := S) (B := B) hm ?_
  have h1 := h w.drew hSt.drew (by simpa only [codeOk] using hok) a ha
  rw [List.toArray_replicate] at h1
  exact h1

/-- May number i be taken first? -/
def mayFirst (l : List Oper) (L : List Bool) (i : Nat) : Bool := Region.noSelect l.toArray && Region.free .any l.toArray L.toArray i && (Region.ready .any l.toArray L.toArray).contains i
def noBb (B : Nat → Bool) (L : List Bool) : Bool := (List.range L.length).all fun b => !B b || L.getD b true == false
theorem noB_of {L : List Bool} (hB : ∀ b, B b = true → b < L.length) (h : noBb B L = true) : noB B L.toArray := by
  intro b hb
  have := List.all_eq_true.1 h b (List.mem_range.2 (hB b hb))
  rw [hb] at this
  simp only [Bool.not_true, Bool.false_or, beq_iff_eq] at this
  rw [← this]
  simp [Array.getD_eq_getD_getElem?, List.getD_eq_getElem?_getD]
theorem noB_to {L : List Bool} (h : noB B L.toArray) : noBb B L = true := by
  refine List.all_eq_true.2 fun b _ => ?_
  cases hb : B b with
  | false => rfl
  | true =>
    have := h b hb
    simp only [Array.getD_eq_getD_getElem?, List.getElem?_toArray] at this
    simp [List.getD_eq_getElem?_getD, this]

theorem WB_done {f : Nat} {L : List Bool} (hr : Region.ready .any l.toArray L.toArray = []) (h : Q .normal T w) : WB P n l Q S B f L T w := by
  intro _ a ha
  cases f with
  | zero => exact ⟨hr, T, ha, h⟩
  | succ f => exact ⟨fun _ => ⟨T, ha, h⟩, by rw [hr]; simp⟩

theorem okAt {i : Nat} {o : Oper} (hi : l[i]? = some o) (hok : l.all (operOk n) = true) : operOk n o = true := List.all_eq_true.1 hok o (List.mem_of_getElem? hi)

/-- Take an operation that reads nothing first. -/
theorem WB_y {i f d : Nat} {op : Op} {ty : TypeId} {pos : String} {af : Array Edge} {v : Value} {L : List Bool} (hi : l[i]? = some ⟨some d, op, ty, pos, af, none⟩)
    (hs : mayFirst l L i = true) (hBi : B i = false) (h : YV P (fun _ => True) T ⟨some d, op, ty, pos, af, none⟩ v) (hS : noBb B L = true → S w) (k : WB P n l Q S B f (L.set i true) (upd T d v) w) : WB P n l Q S B (f + 1) L T w := by
  intro hok a ha
  simp only [mayFirst, Bool.and_eq_true] at hs
  have hi' : l.toArray[i]? = some ⟨some d, op, ty, pos, af, none⟩ := by simpa using hi
  refine wpAnyB_first (S' := fun _ => True) (v := v) hi' (Region.noSelect_spec hs.1.1) (fun c a w h => h) hBi (.inl fun _ => trivial) f L.toArray a w (Region.free_spec hi' hs.1.2) (by simpa using hs.2) (.inl ⟨rfl, fun w' hw' => ?_⟩) trivial (.inl fun _ => trivial) (fun hn => hS (noB_to hn)) ?_
  · rw [ha.eval]; exact h w' hw'
  · have := k hok _ (ha.put (some d) v (operOk.lt (okAt hi hok)))
    simpa using this
theorem WB_gy {i f d j t : Nat} {b : Bool} {op : Op} {ty : TypeId} {pos : String} {af : Array Edge} {v : Value} {L : List Bool} (hi : l[i]? = some ⟨some d, op, ty, pos, af, some (j, b)⟩)
    (hs : mayFirst l L i = true) (hBi : B i = false) (hj : (l[j]?).bind (·.dst) = some t) (hT : T t = .bool b) (h : YV P (fun _ => True) T ⟨some d, op, ty, pos, af, some (j, b)⟩ v) (hS : noBb B L = true → S w) (k : WB P n l Q S B f (L.set i true) (upd T d v) w) : WB P n l Q S B (f + 1) L T w := by
  intro hok a ha
  simp only [mayFirst, Bool.and_eq_true] at hs
  have hi' : l.toArray[i]? = some ⟨some d, op, ty, pos, af, some (j, b)⟩ := by simpa using hi
  have hj' : (l.toArray[j]?).bind (·.dst) = some t := by simpa using hj
  refine wpAnyB_first (S' := fun _ => True) (v := v) hi' (Region.noSelect_spec hs.1.1) (fun c a w h => h) hBi (.inl fun _ => trivial) f L.toArray a w (Region.free_spec hi' hs.1.2) (by simpa using hs.2) (.inl ⟨by rw [wanted_of ha hj' hT]; simp, fun w' hw' => ?_⟩) trivial (.inl fun _ => trivial) (fun hn => hS (noB_to hn)) ?_
  · rw [ha.eval]; exact h w' hw'
  · have := k hok _ (ha.put (some d) v (operOk.lt (okAt hi hok)))
    simpa using this
/-- Pass by an operation whose guard does not let it. -/
theorem WB_s {i f j t : Nat} {d : Option Nat} {b b' : Bool} {op : Op} {ty : TypeId} {pos : String} {af : Array Edge} {L : List Bool} (hi : l[i]? = some ⟨d, op, ty, pos, af, some (j, b')⟩)
    (hs : mayFirst l L i = true) (hBi : B i = false) (hj : (l[j]?).bind (·.dst) = some t) (hT : T t = .bool b) (hb : (b == b') = false) (hS : noBb B L = true → S w) (k : WB P n l Q S B f (L.set i true) (updO T d undef) w) : WB P n l Q S B (f + 1) L T w := by
  intro hok a ha
  simp only [mayFirst, Bool.and_eq_true] at hs
  have hi' : l.toArray[i]? = some ⟨d, op, ty, pos, af, some (j, b')⟩ := by simpa using hi
  have hj' : (l.toArray[j]?).bind (·.dst) = some t := by simpa using hj
  refine wpAnyB_first (S' := fun _ => True) (v := undef) hi' (Region.noSelect_spec hs.1.1) (fun c a w h => h) hBi (.inl fun _ => trivial) f L.toArray a w (Region.free_spec hi' hs.1.2) (by simpa using hs.2) (.inr ⟨by rw [wanted_of ha hj' hT]; exact hb, rfl⟩) trivial (.inl fun _ => trivial) (fun hn => hS (noB_to hn)) ?_
  have := k hok _ (ha.put d undef (operOk.lt (okAt hi hok)))
  simpa using this
theorem wanted_undef {ops : Array Oper} {d : Option Nat} {op : Op} {ty : TypeId} {pos : String} {af : Array Edge} {j : Nat} {b' : Bool} {t : Nat} {a : Act} (hf : Fr n T a) (hj : (ops[j]?).bind (·.dst) = some t) (hT : T t = undef) :
    Region.wanted ⟨d, op, ty, pos, af, some (j, b')⟩ (yielded ops a.tmps) = false := by
  simp only [Region.wanted, yielded]
  rw [hj]
  have h := hf.2.2 t
  rw [hT, Array.getD_eq_getD_getElem?] at h
  cases hx : a.tmps[t]? with
  | none => simp [hx]
  | some v =>
    rw [hx] at h
    simp only [Option.getD_some] at h
    subst h
    simp [hx, undef]
theorem WL_su {ops : Array Oper} {Q : Exit → Tm → World → Prop} {rest : List Oper} {d : Option Nat} {op : Op} {ty : TypeId} {pos : String} {af : Array Edge} {j t : Nat} {b' : Bool} (hj : (ops[j]?).bind (·.dst) = some t) (hT : T t = undef) (k : WL P n ops Q rest (updO T d undef) w) :
    WL P n ops Q (⟨d, op, ty, pos, af, some (j, b')⟩ :: rest) T w := by
  intro hok a ha
  simp only [List.all_cons, Bool.and_eq_true] at hok
  refine wpList_step fun K hK => ?_
  rw [if_neg (by rw [wanted_undef ha hj hT]; simp)]
  exact hK _ _ (k hok.2 _ (ha.put d undef (operOk.lt hok.1)))
theorem WB_su {i f j t : Nat} {d : Option Nat} {b' : Bool} {op : Op} {ty : TypeId} {pos : String} {af : Array Edge} {L : List Bool} (hi : l[i]? = some ⟨d, op, ty, pos, af, some (j, b')⟩)
    (hs : mayFirst l L i = true) (hBi : B i = false) (hj : (l[j]?).bind (·.dst) = some t) (hT : T t = undef) (hS : noBb B L = true → S w) (k : WB P n l Q S B f (L.set i true) (updO T d undef) w) : WB P n l Q S B (f + 1) L T w := by
  intro hok a ha
  simp only [mayFirst, Bool.and_eq_true] at hs
  have hi' : l.toArray[i]? = some ⟨d, op, ty, pos, af, some (j, b')⟩ := by simpa using hi
  have hj' : (l.toArray[j]?).bind (·.dst) = some t := by simpa using hj
  refine wpAnyB_first (S' := fun _ => True) (v := undef) hi' (Region.noSelect_spec hs.1.1) (fun c a w h => h) hBi (.inl fun _ => trivial) f L.toArray a w (Region.free_spec hi' hs.1.2) (by simpa using hs.2) (.inr ⟨wanted_undef ha hj' hT, rfl⟩) trivial (.inl fun _ => trivial) (fun hn => hS (noB_to hn)) ?_
  have := k hok _ (ha.put d undef (operOk.lt (okAt hi hok)))
  simpa using this

/-- Take a load first: all of B wait for it. -/
theorem WB_ld {i f d : Nat} {op : Op} {ty : TypeId} {pos : String} {af : Array Edge} {v : Value} {L : List Bool} (hi : l[i]? = some ⟨some d, op, ty, pos, af, none⟩)
    (hs : mayFirst l L i = true) (hBi : B i = false) (hBl : ∀ b, B b = true → b < L.length) (hB : (List.range L.length).all (fun j => !B j || waits .any l.toArray i j) = true) (hN : noBb B L = true)
    (h : YV P S T ⟨some d, op, ty, pos, af, none⟩ v) (hS : S w) (k : WB P n l Q S B f (L.set i true) (upd T d v) w) : WB P n l Q S B (f + 1) L T w := by
  intro hok a ha
  simp only [mayFirst, Bool.and_eq_true] at hs
  have hi' : l.toArray[i]? = some ⟨some d, op, ty, pos, af, none⟩ := by simpa using hi
  refine wpAnyB_first (S' := S) (v := v) hi' (Region.noSelect_spec hs.1.1) (fun c a w h => h) hBi (.inr ⟨fun _ h => h, fun j hj => ?_⟩) f L.toArray a w (Region.free_spec hi' hs.1.2) (by simpa using hs.2) (.inl ⟨rfl, fun w' hw' => ?_⟩) hS (.inr (noB_of hBl hN)) (fun _ => hS) ?_
  · have := List.all_eq_true.1 hB j (List.mem_range.2 (hBl j hj))
    rw [hj] at this
    simpa using this
  · rw [ha.eval]; exact h w' hw'
  · have := k hok _ (ha.put (some d) v (operOk.lt (okAt hi hok)))
    simpa using this
theorem WB_gld {i f d j t : Nat} {b : Bool} {op : Op} {ty : TypeId} {pos : String} {af : Array Edge} {v : Value} {L : List Bool} (hi : l[i]? = some ⟨some d, op, ty, pos, af, some (j, b)⟩)
    (hs : mayFirst l L i = true) (hBi : B i = false) (hBl : ∀ b, B b = true → b < L.length) (hB : (List.range L.length).all (fun j => !B j || waits .any l.toArray i j) = true) (hN : noBb B L = true)
    (hj : (l[j]?).bind (·.dst) = some t) (hT : T t = .bool b)
    (h : YV P S T ⟨some d, op, ty, pos, af, some (j, b)⟩ v) (hS : S w) (k : WB P n l Q S B f (L.set i true) (upd T d v) w) : WB P n l Q S B (f + 1) L T w := by
  intro hok a ha
  simp only [mayFirst, Bool.and_eq_true] at hs
  have hi' : l.toArray[i]? = some ⟨some d, op, ty, pos, af, some (j, b)⟩ := by simpa using hi
  have hj' : (l.toArray[j]?).bind (·.dst) = some t := by simpa using hj
  refine wpAnyB_first (S' := S) (v := v) hi' (Region.noSelect_spec hs.1.1) (fun c a w h => h) hBi (.inr ⟨fun _ h => h, fun q hq => ?_⟩) f L.toArray a w (Region.free_spec hi' hs.1.2) (by simpa using hs.2) (.inl ⟨by rw [wanted_of ha hj' hT]; simp, fun w' hw' => ?_⟩) hS (.inr (noB_of hBl hN)) (fun _ => hS) ?_
  · have := List.all_eq_true.1 hB q (List.mem_range.2 (hBl q hq))
    rw [hq] at this
    simpa using this
  · rw [ha.eval]; exact h w' hw'
  · have := k hok _ (ha.put (some d) v (operOk.lt (okAt hi hok)))
    simpa using this

theorem WB_all {rs : List Nat} {f : Nat} {L : List Bool} (hr : Region.ready .any l.toArray L.toArray = rs) (hne : rs ≠ [])
    (h : ∀ i ∈ rs, ∃ o, l[i]? = some o ∧ (∀ a, Fr n T a → Region.wanted o (yielded l.toArray a.tmps) = true) ∧ OW P n Q o T w (fun T' w' => (noBb B (L.set i true) = true → S w') ∧ WB P n l Q S B f (L.set i true) T' w')) : WB P n l Q S B (f + 1) L T w := by
  intro hok a ha
  refine ⟨fun h0 => absurd (hr ▸ h0) hne, fun i hi => ?_⟩
  rw [hr] at hi
  obtain ⟨o, ho, hg, hw⟩ := h i hi
  unfold wpOp
  have ho' : l.toArray[i]? = some o := by simpa using ho
  rw [ho']
  simp only [hg a ha, if_true]
  refine .inl (Oper.wp_mono ?_ (hw (okAt ho hok) a ha))
  intro a' w' ⟨T', hf, hS, hk⟩
  have e : L.toArray.setIfInBounds i true = (L.set i true).toArray := by simp
  rw [e]
  exact ⟨fun hn => hS (noB_to hn), hk hok a' hf⟩
theorem WB_one {i f : Nat} {d : Option Nat} {op : Op} {ty : TypeId} {pos : String} {af : Array Edge} {L : List Bool} (hr : Region.ready .any l.toArray L.toArray = [i]) (hi : l[i]? = some ⟨d, op, ty, pos, af, none⟩)
    (h : OW P n Q ⟨d, op, ty, pos, af, none⟩ T w (fun T' w' => (noBb B (L.set i true) = true → S w') ∧ WB P n l Q S B f (L.set i true) T' w')) : WB P n l Q S B (f + 1) L T w :=
  WB_all hr (by simp) fun j hj => by
    simp only [List.mem_singleton] at hj
    subst hj
    exact ⟨_, hi, fun _ _ => rfl, h⟩
theorem WB_one_g {i f j t : Nat} {b : Bool} {d : Option Nat} {op : Op} {ty : TypeId} {pos : String} {af : Array Edge} {L : List Bool} (hr : Region.ready .any l.toArray L.toArray = [i]) (hi : l[i]? = some ⟨d, op, ty, pos, af, some (j, b)⟩)
    (hj : (l[j]?).bind (·.dst) = some t) (hT : T t = .bool b)
    (h : OW P n Q ⟨d, op, ty, pos, af, some (j, b)⟩ T w (fun T' w' => (noBb B (L.set i true) = true → S w') ∧ WB P n l Q S B f (L.set i true) T' w')) : WB P n l Q S B (f + 1) L T w :=
  WB_all hr (by simp) fun i' hi' => by
    simp only [List.mem_singleton] at hi'
    subst hi'
    have hj' : (l.toArray[j]?).bind (·.dst) = some t := by simpa using hj
    exact ⟨_, hi, fun _ ha => by rw [wanted_of ha hj' hT]; simp, h⟩
theorem WB_two {i j f : Nat} {d d' : Option Nat} {op op' : Op} {ty ty' : TypeId} {pos pos' : String} {af af' : Array Edge} {L : List Bool} (hr : Region.ready .any l.toArray L.toArray = [i, j]) (hi : l[i]? = some ⟨d, op, ty, pos, af, none⟩) (hj : l[j]? = some ⟨d', op', ty', pos', af', none⟩)
    (h1 : OW P n Q ⟨d, op, ty, pos, af, none⟩ T w (fun T' w' => (noBb B (L.set i true) = true → S w') ∧ WB P n l Q S B f (L.set i true) T' w'))
    (h2 : OW P n Q ⟨d', op', ty', pos', af', none⟩ T w (fun T' w' => (noBb B (L.set j true) = true → S w') ∧ WB P n l Q S B f (L.set j true) T' w')) : WB P n l Q S B (f + 1) L T w :=
  WB_all hr (by simp) fun k hk => by
    simp only [List.mem_cons, List.not_mem_nil, or_false] at hk
    rcases hk with rfl | rfl
    · exact ⟨_, hi, fun _ _ => rfl, h1⟩
    · exact ⟨_, hj, fun _ _ => rfl, h2⟩

/-- What the loads of a region lean on: data, and boxes. -/
def Rd (M : Mm) (H : List Ent) (w : World) : Prop := Agree M w ∧ ∀ b cs t, Ent.box b cs t ∈ H → w.heap[b]? = some (.cells cs.toArray t (0, 0))
theorem Agree.of_le {M M' : Mm} {w : World} (h : Agree M' w) (hm : M.le M') : Agree M w := fun b p hb => by
  obtain ⟨p', h1, h2⟩ := hm b p hb
  obtain ⟨cs, t, fr, h3, h4⟩ := h b p' h1
  exact ⟨cs, t, fr, h3, h2.trans h4⟩
theorem Rd.of {M' : Mm} {H' : List Ent} (h : St w0 X M' H' w) {k : Nat} (hm : Mm.ext k X M M') (hs : ∀ e ∈ H, e ∈ H') : Rd M H w :=
  ⟨h.agree.of_le hm.1, fun _ _ _ hb => (h.ents _ (hs _ hb)).1⟩
theorem bvR (j : Nat) {b : Nat} {cs : List Value} {t : TypeId} (hj : H[j]? = some (.box b cs t)) : BV (Rd M H) b cs := fun _ h => ⟨cs.toArray, t, (0, 0), h.2 b cs t (List.mem_of_getElem? hj), by simp⟩
theorem bvRM {b : Nat} {p : List Value} (hb : M b = some p) : BV (Rd M H) b p := fun _ h => h.1 b p hb
def inL (bl : List Nat) : Nat → Bool := fun i => bl.contains i
theorem inL_lt {bl : List Nat} {n : Nat} (h : bl.all (fun x => Nat.blt x n) = true) : ∀ b, inL bl b = true → b < n := by
  intro b hb
  exact Nat.le_of_ble_eq_true (List.all_eq_true.1 h b (by simpa [inL] using hb))
end
end Go.Proofs.Ytopgdemmdcipcaa
