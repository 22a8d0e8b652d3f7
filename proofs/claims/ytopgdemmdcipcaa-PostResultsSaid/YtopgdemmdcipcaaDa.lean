/- A walk over frames as functions: the rules of statements, and of regions operation by operation. Nothing of the program is named here. -/
import Derived.WalkKit
import Derived.WalkSpells
import Derived.WalkLawsBesides
import Derived.OrdersHeld
namespace Go.Proofs.Ytopgdemmdcipcaa
open Go.RowKit

abbrev Tm := Nat → Value
def upd (T : Tm) (d : Nat) (v : Value) : Tm := fun k => bif Nat.beq k d then v else T k
def evT (T : Tm) : Operand → Value
  | .tmp t => T t
  | .const v => v
  | .global g => .pointer (some ⟨g, 0, none⟩)
  | .func f => .func (.func f) #[] #[]
def updO (T : Tm) : Option Nat → Value → Tm
  | some d, v => upd T d v
  | none, _ => T

def Fr (n : Nat) (T : Tm) (a : Act) : Prop := a.tmps.size = n ∧ a.defers = [] ∧ ∀ k, a.tmps.getD k undef = T k

theorem Fr.eval {n : Nat} {T : Tm} {a : Act} (h : Fr n T a) : a.eval = evT T := by
  funext x
  cases x with
  | tmp t => exact h.2.2 t
  | _ => rfl

theorem Fr.put {n : Nat} {T : Tm} {a : Act} (h : Fr n T a) (dst : Option Nat) (v : Value) (hd : ∀ d, dst = some d → d < n) : Fr n (updO T dst v) (a.put dst v) := by
  cases dst with
  | none => exact h
  | some d =>
    have hd := hd d rfl
    refine ⟨by simp [Act.put, h.1], h.2.1, fun k => ?_⟩
    simp only [Act.put, updO, upd]
    rw [Array.getD_eq_getD_getElem?, Array.getElem?_setIfInBounds]
    by_cases e : k = d
    · subst e
      have hb : Nat.beq k k = true := Nat.beq_refl k
      rw [hb, if_pos rfl, if_pos (by rw [h.1]; exact hd)]
      rfl
    · have hb : Nat.beq k d = false := Bool.eq_false_iff.2 fun h => e (Nat.eq_of_beq_eq_true h)
      rw [if_neg (fun h => e h.symm), hb, ← Array.getD_eq_getD_getElem?]
      exact h.2.2 k

def operOk (n : Nat) (o : Oper) : Bool := match o.dst with | some d => Nat.blt d n | none => true
def codeOk (n : Nat) : Code → Bool
  | .region _ ops _ => ops.toList.all (operOk n)
  | .seq a b => codeOk n a && codeOk n b
  | .cond _ a b => codeOk n a && codeOk n b
  | .block _ b => codeOk n b
  | .loop b => codeOk n b
  | .scope b => codeOk n b
  | _ => true

theorem operOk.lt {n : Nat} {o : Oper} (h : operOk n o = true) : ∀ d, o.dst = some d → d < n := by
  intro d hd
  unfold operOk at h
  rw [hd] at h
  exact Nat.le_of_ble_eq_true h

def Qx (n : Nat) (Q : Exit → Tm → World → Prop) : Exit → Act → World → Prop := fun e a w =>
  match e with
  | .panic _ => False
  | .outgrown => False
  | e => ∃ T, Fr n T a ∧ Q e T w

section
variable {P : Program} {n : Nat} {Q : Exit → Tm → World → Prop} {T : Tm} {w : World}

def W (P : Program) (n : Nat) (c : Code) (Q : Exit → Tm → World → Prop) (T : Tm) (w : World) : Prop :=
  codeOk n c = true → ∀ a, Fr n T a → c.wp P (Qx n Q) a w

def thenQ (next : Tm → World → Prop) (Q : Exit → Tm → World → Prop) : Exit → Tm → World → Prop := fun e T w =>
  match e with
  | .normal => next T w
  | e => Q e T w
def blkQ (id : Nat) (Q : Exit → Tm → World → Prop) : Exit → Tm → World → Prop := fun e T w =>
  match e with
  | .exit id' => bif Nat.beq id' id then Q .normal T w else Q (.exit id') T w
  | e => Q e T w

theorem W_seq {x y : Code} (h : W P n x (thenQ (W P n y Q) Q) T w) : W P n (.seq x y) Q T w := by
  intro hok a ha
  simp only [codeOk, Bool.and_eq_true] at hok
  refine wp_seq (wp_mono (h hok.1 a ha) ?_)
  intro e a' w' hq
  cases e <;> simp only [Qx, thenQ, Exit.then] at hq ⊢ <;> try exact hq
  obtain ⟨T', hf, hw⟩ := hq
  exact hw hok.2 a' hf

theorem W_block {id : Nat} {c : Code} (h : W P n c (blkQ id Q) T w) : W P n (.block id c) Q T w := by
  intro hok a ha
  refine wp_block (wp_mono (h hok a ha) ?_)
  intro e a' w' hq
  cases e <;> simp only [Qx, blkQ, Exit.inBlock] at hq ⊢ <;> try exact hq
  rename_i id'
  obtain ⟨T', hf, hw⟩ := hq
  by_cases hid : id' = id
  · subst hid
    rw [Nat.beq_refl] at hw
    rw [if_pos rfl]
    exact ⟨T', hf, hw⟩
  · have hb : Nat.beq id' id = false := Bool.eq_false_iff.2 fun h => hid (Nat.eq_of_beq_eq_true h)
    rw [hb] at hw
    rw [if_neg hid]
    exact ⟨T', hf, hw⟩

theorem W_cond {c : Operand} {x y : Code} {b : Bool} (hc : evT T c = .bool b) (ht : b = true → W P n x Q T w) (hf : b = false → W P n y Q T w) : W P n (.cond c x y) Q T w := by
  intro hok a ha
  simp only [codeOk, Bool.and_eq_true] at hok
  exact wp_cond_split (by rw [ha.eval]; exact hc) (fun h => ht h hok.1 a ha) (fun h => hf h hok.2 a ha)

theorem W_cond_t {c : Operand} {x y : Code} (hc : evT T c = .bool true) (ht : W P n x Q T w) : W P n (.cond c x y) Q T w :=
  W_cond hc (fun _ => ht) (fun h => by cases h)
theorem W_cond_f {c : Operand} {x y : Code} (hc : evT T c = .bool false) (hf : W P n y Q T w) : W P n (.cond c x y) Q T w :=
  W_cond hc (fun h => by cases h) (fun _ => hf)

theorem W_skip (h : Q .normal T w) : W P n .skip Q T w := fun _ _ ha => wp_skip ⟨T, ha, h⟩
theorem W_exit {id : Nat} (h : Q (.exit id) T w) : W P n (.exit id) Q T w := fun _ _ ha => wp_exit ⟨T, ha, h⟩
theorem W_ret (h : Q .ret T w) : W P n .ret Q T w := fun _ _ ha => wp_ret ⟨T, ha, h⟩

theorem W_mono {c : Code} {Q' : Exit → Tm → World → Prop} (hq : ∀ e T w, Q e T w → Q' e T w) (h : W P n c Q T w) : W P n c Q' T w := by
  intro hok a ha
  refine wp_mono (h hok a ha) ?_
  intro e a' w' hx
  cases e <;> simp only [Qx] at hx ⊢ <;> first | exact hx | (obtain ⟨T', hf, hw⟩ := hx; exact ⟨T', hf, hq _ _ _ hw⟩)

/-- A loop, by a number that goes down. -/
theorem W_loop {c : Code} (I : Nat → Tm → World → Prop) (m : Nat) (h0 : I m T w) (hz : ∀ T w, ¬ I 0 T w)
    (hs : ∀ k T w, I (k + 1) T w → W P n c (thenQ (I k) Q) T w) : W P n (.loop c) Q T w := by
  intro hok a ha
  have hok' : codeOk n c = true := hok
  intro b k cs
  have key : ∀ m a T w, Fr n T a → I m T w →
      ∃ e a' w', Qx n Q e a' w' ∧ Arrives P (lone (b.at a (.code c :: .inLoop c :: k)) cs w) b k cs e a' w' := by
    intro m
    induction m with
    | zero => intro a T w _ hI; exact absurd hI (hz _ _)
    | succ m ih =>
      intro a T w hf hI
      obtain ⟨e, a₁, w₁, hq, harr⟩ := hs m T w hI hok' a hf b (.inLoop c :: k) cs
      cases e with
      | normal =>
        obtain ⟨T', hf', hI'⟩ := hq
        obtain ⟨e₂, a₂, w₂, hq₂, harr₂⟩ := ih a₁ T' w₁ hf' hI'
        exact ⟨e₂, a₂, w₂, hq₂, .of_steps (Steps.trans harr (.one step_inLoop)) harr₂⟩
      | exit id => exact ⟨.exit id, a₁, w₁, (show Qx n Q (.exit id) a₁ w₁ from hq), .pass (x := .inLoop c) rfl (fun _ _ => .inl (by simp)) harr⟩
      | goto l => exact ⟨.goto l, a₁, w₁, (show Qx n Q (.goto l) a₁ w₁ from hq), .pass (x := .inLoop c) rfl (fun _ _ => .inl (by simp)) harr⟩
      | ret => exact ⟨.ret, a₁, w₁, (show Qx n Q .ret a₁ w₁ from hq), .pass (x := .inLoop c) rfl (fun _ _ => .inl (by simp)) harr⟩
      | panic ch => exact hq.elim
      | outgrown => exact hq.elim
  obtain ⟨e, a', w', hq, harr⟩ := key m a T w ha h0
  exact ⟨e, a', w', hq, .of_steps (.one step_loop) harr⟩

end
end Go.Proofs.Ytopgdemmdcipcaa
