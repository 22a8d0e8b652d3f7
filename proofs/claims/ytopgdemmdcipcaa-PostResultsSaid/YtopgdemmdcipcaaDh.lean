/- How a call begins and ends under the state; small words for what is computed. Nothing of the program is named here. -/
import Derived.Test.YtopgdemmdcipcaaDg
namespace Go.Proofs.Ytopgdemmdcipcaa
set_option linter.unusedVariables false
open Go.RowKit
open Rep (rep)

theorem bind_ok {α β : Type} {o : Option α} {f : α → Option β} {r : β} (h : o.bind f = some r) : ∃ x, o = some x ∧ f x = some r := Option.bind_eq_some_iff.1 h
theorem bif_ok_t {α : Type} {c : Bool} {a b : Option α} {r : α} (h : (bif c then a else b) = some r) (hc : c = true) : a = some r := by subst hc; exact h
theorem bif_ok_f {α : Type} {c : Bool} {a b : Option α} {r : α} (h : (bif c then a else b) = some r) (hc : c = false) : b = some r := by subst hc; exact h

/-- What may be appended. -/
def app {α : Type} [Rep α] (a b : List α) : Option (List α) := if (a.length + b.length) * Rep.bytes α ≤ 140737488351232 then some (a ++ b) else none
theorem app_some {α : Type} [Rep α] {a b c : List α} (h : app a b = some c) : (a.length + b.length) * Rep.bytes α ≤ 140737488351232 ∧ c = a ++ b := by
  unfold app at h
  split at h
  · rename_i hk; exact ⟨hk, (Option.some.inj h).symm⟩
  · cases h
def cat (a b : ByteArray) : Option ByteArray := if a.size + b.size ≤ 140737488351232 then some (a ++ b) else none
theorem cat_some {a b c : ByteArray} (h : cat a b = some c) : a.size + b.size ≤ 140737488351232 ∧ c = a ++ b := by
  unfold cat at h
  split at h
  · rename_i hk; exact ⟨hk, (Option.some.inj h).symm⟩
  · cases h
def cutB (s : ByteArray) (lo hi : Option Int) : Option ByteArray := (cutOk s.size lo hi).map fun p => s.extract p.1 p.2
def cutL {α : Type} (l : List α) (lo hi : Option Int) : Option (List α) := (cutOk l.length lo hi).map fun p => (l.take p.2).drop p.1

def RetQ (P : Program) (fn : Func) (R : Ending → World → Prop) : Exit → Tm → World → Prop := fun e T w =>
  match e with
  | .normal | .ret => ∀ tmps : Array Value, (∀ k, tmps.getD k undef = T k) → ∃ v, (results fn tmps).run P w = .ok v w ∧ R (.returned v) w
  | _ => False

theorem getD_args (vs : List Value) (m k : Nat) : (vs.toArray ++ Array.replicate m undef).getD k undef = vs.getD k undef := by
  rw [Array.getD_eq_getD_getElem?, List.getD_eq_getElem?_getD, Array.getElem?_append]
  by_cases h : k < vs.length
  · rw [if_pos (by simpa using h)]; simp
  · rw [if_neg (by simpa using h), Array.getElem?_replicate, List.getElem?_eq_none (by omega)]
    split <;> rfl

theorem calls_W {P : Program} {f : FuncId} {fn : Func} {c : Code} {vs : List Value} {w : World} {R : Ending → World → Prop} (hf : P.funcs[f]? = some fn) (hb : fn.body = some c) (n : Nat) (hn : fn.ntmps = n) (hv : Nat.ble vs.length n = true) (hok : codeOk n c = true)
    (h : ∀ T : Tm, (∀ k, T k = vs.getD k undef) → W P n c (RetQ P fn R) T w) : Calls P f vs.toArray w R := by
  subst hn
  refine calls_of_W hf hb (by simpa using Nat.le_of_ble_eq_true hv) hok fun T hT => ?_
  refine W_mono (fun e T w hq => ?_) (h T fun k => (hT k).trans (getD_args _ _ _))
  cases e <;> exact hq

section
variable {P : Program} {fn : Func} {R : Ending → World → Prop} {T : Tm} {w w0 : World} {X : Nat → Prop} {M : Mm} {H : List Ent}

theorem RetQ_ret (h : RetQ P fn R .ret T w) : RetQ P fn R .normal T w := h
def resV (tmps : Array Value) : ResultVar → Sem Value
  | .tmp t => pure (tmps.getD t undef)
  | .cell a t => do loadVar t (← asAddr (tmps.getD a undef))
def resAll (P : Program) (w : World) (tmps : Array Value) : List ResultVar → List Value → Prop
  | [], [] => True
  | r :: rs, v :: vs => (resV tmps r).run P w = .ok v w ∧ resAll P w tmps rs vs
  | _, _ => False
def resOf : List Value → Value
  | [v] => v
  | vs => .tuple vs.toArray
theorem run_resAll {tmps : Array Value} : ∀ {rs : List ResultVar} {vs : List Value}, resAll P w tmps rs vs → (rs.mapM (resV tmps)).run P w = .ok vs w
  | [], [], _ => by simp
  | r :: rs, v :: vs, h => by
    obtain ⟨h1, h2⟩ := h
    have := run_resAll h2
    simp only [List.mapM_cons, Sem.run_bind, h1, Result.andThen, this]
    rfl
  | [], _ :: _, h => h.elim
  | _ :: _, [], h => h.elim
theorem run_results {tmps : Array Value} {rs : List ResultVar} {vs : List Value} (hr : fn.results = rs.toArray) (h : resAll P w tmps rs vs) : (results fn tmps).run P w = .ok (resOf vs) w := by
  have hm : (fn.results.mapM (resV tmps)).run P w = .ok vs.toArray w := by
    rw [hr, Array.mapM_eq_mapM_toList, Sem.run_map, run_resAll h]
    rfl
  have e : results fn tmps = (do let vs ← fn.results.mapM (resV tmps); pure (if h : vs.size = 1 then vs[0] else .tuple vs)) := by
    unfold results
    congr 1
  rw [e, Sem.run_bind, hm]
  rcases vs with _ | ⟨v, _ | ⟨u, t⟩⟩ <;> simp [resOf, Result.andThen]

theorem run_loadBox {t : TypeId} {v : Value} {b : Nat} {cs : List Value} {t' : TypeId} (hv : v = .pointer (some ⟨b, 0, none⟩)) (ht : TA P t cs.length) (hSt : St w0 X M H w) (j : Nat) (hj : H[j]? = some (.box b cs t')) : (do loadVar t (← asAddr v) : Sem Value).run P w = .ok (.agg cs.toArray) w := by
  subst hv
  obtain ⟨d, h1, h2, h5⟩ := ht
  have hbx := (hSt.ents _ (List.mem_of_getElem? hj)).1
  have := run_loadVar_mid (P := P) w b 0 t cs d (by have := rangeAt_of (n := cs.length) (off := 0) hbx (List.prefix_refl _); rwa [sl_all] at this) h1 h2 h5
  simp [asAddr, this]

theorem resV_t {tmps : Array Value} (hT : ∀ k, tmps.getD k undef = T k) {r : Nat} {v : Value} (h : T r = v) : (resV tmps (.tmp r)).run P w = .ok v w := by
  show (pure (tmps.getD r undef) : Sem Value).run P w = _
  rw [hT, h]
  simp
theorem resV_c {tmps : Array Value} (hT : ∀ k, tmps.getD k undef = T k) {r b t j : Nat} {cs : List Value} {t' : TypeId} (h1 : T r = .pointer (some ⟨b, 0, none⟩)) (ht : TA P t cs.length) (hSt : St w0 X M H w) (hj : H[j]? = some (.box b cs t')) : (resV tmps (.cell r t)).run P w = .ok (.agg cs.toArray) w :=
  run_loadBox (P := P) ((hT r).trans h1) ht hSt j hj

theorem R_t1 {r : Nat} {v : Value} (hr : fn.results = #[.tmp r]) (h1 : T r = v) (h : R (.returned v) w) : RetQ P fn R .ret T w :=
  fun _ hT => ⟨v, run_results (rs := [.tmp r]) (vs := [v]) hr ⟨resV_t hT h1, trivial⟩, h⟩
theorem R_t2 {r s : Nat} {v u : Value} (hr : fn.results = #[.tmp r, .tmp s]) (h1 : T r = v) (h2 : T s = u) (h : R (.returned (.tuple #[v, u])) w) : RetQ P fn R .ret T w :=
  fun _ hT => ⟨_, run_results (rs := [.tmp r, .tmp s]) (vs := [v, u]) hr ⟨resV_t hT h1, resV_t hT h2, trivial⟩, h⟩
theorem R_t3 {r s q : Nat} {v u x : Value} (hr : fn.results = #[.tmp r, .tmp s, .tmp q]) (h1 : T r = v) (h2 : T s = u) (h3 : T q = x) (h : R (.returned (.tuple #[v, u, x])) w) : RetQ P fn R .ret T w :=
  fun _ hT => ⟨_, run_results (rs := [.tmp r, .tmp s, .tmp q]) (vs := [v, u, x]) hr ⟨resV_t hT h1, resV_t hT h2, resV_t hT h3, trivial⟩, h⟩
theorem R_t0 (hr : fn.results = #[]) (h : R (.returned (.tuple #[])) w) : RetQ P fn R .ret T w :=
  fun _ _ => ⟨_, run_results (rs := []) (vs := []) hr trivial, h⟩
section
variable {b t j : Nat} {cs : List Value} {t' : TypeId} {r : Nat}
theorem R_c (hr : fn.results = #[.cell r t]) (h1 : T r = .pointer (some ⟨b, 0, none⟩)) (ht : TA P t cs.length) (hSt : St w0 X M H w) (hj : H[j]? = some (.box b cs t')) (h : R (.returned (.agg cs.toArray)) w) : RetQ P fn R .ret T w :=
  fun _ hT => ⟨_, run_results (rs := [.cell r t]) (vs := [.agg cs.toArray]) hr ⟨resV_c hT h1 ht hSt hj, trivial⟩, h⟩
theorem R_ct {s : Nat} {u : Value} (hr : fn.results = #[.cell r t, .tmp s]) (h1 : T r = .pointer (some ⟨b, 0, none⟩)) (h2 : T s = u) (ht : TA P t cs.length) (hSt : St w0 X M H w) (hj : H[j]? = some (.box b cs t')) (h : R (.returned (.tuple #[.agg cs.toArray, u])) w) : RetQ P fn R .ret T w :=
  fun _ hT => ⟨_, run_results (rs := [.cell r t, .tmp s]) (vs := [.agg cs.toArray, u]) hr ⟨resV_c hT h1 ht hSt hj, resV_t hT h2, trivial⟩, h⟩
theorem R_ctt {s q : Nat} {u x : Value} (hr : fn.results = #[.cell r t, .tmp s, .tmp q]) (h1 : T r = .pointer (some ⟨b, 0, none⟩)) (h2 : T s = u) (h3 : T q = x) (ht : TA P t cs.length) (hSt : St w0 X M H w) (hj : H[j]? = some (.box b cs t')) (h : R (.returned (.tuple #[.agg cs.toArray, u, x])) w) : RetQ P fn R .ret T w :=
  fun _ hT => ⟨_, run_results (rs := [.cell r t, .tmp s, .tmp q]) (vs := [.agg cs.toArray, u, x]) hr ⟨resV_c hT h1 ht hSt hj, resV_t hT h2, resV_t hT h3, trivial⟩, h⟩
end

/-- What a call leaves: a value that reads as this, and nothing that was there has turned. -/
def Gives (M : Mm) (w : World) (rv : Mm → Value → Prop) : Ending → World → Prop := fun e w' =>
  ∃ v M', e = .returned v ∧ rv M' v ∧ M.new M' w.heap.size ∧ Agree M' w' ∧ Kept w w'

theorem Gives.mk {rv : Mm → Value → Prop} {v : Value} {M' : Mm} {w' : World} (hSt : St w0 noX M' H w') (he : Mm.ext w0.heap.size noX M M') (hv : rv M' v) : Gives M w0 rv (.returned v) w' :=
  ⟨v, M', rfl, hv, he.new, hSt.agree, hSt.kept⟩

/-- A call in a walk. -/
theorem O_gives {n : Nat} {Q : Exit → Tm → World → Prop} {K : Tm → World → Prop} {dst : Option Tmp} {ty : TypeId} {pos : String} {af : Array Edge} {g : Option (Nat × Bool)} {f : FuncId} {fn : Func} {c : Code} {args : List Operand} {ats : Array TypeId} {vs : List Value} {rv : Mm → Value → Prop} (hf : P.funcs[f]? = some fn) (hname : (fn.name == "runtime.NumGoroutine") = false) (hb : fn.body = some c)
    (ha : args.map (evT T) = vs) (hSt : St w0 X M H w) (hc : Calls P f vs.toArray w (Gives M w rv)) (hk : ∀ v M' w', Mm.ext w0.heap.size X M M' → rv M' v → St w0 X M' H w' → K (updO T dst v) w') : OW P n Q ⟨dst, .call ⟨.value (.func f), args.toArray, ats⟩, ty, pos, af, g⟩ T w K :=
  O_call hf hname hb ha hc fun e w' ⟨v, M', he, hv, hn, hA, hK⟩ => ⟨v, he, hk v M' w' (hSt.ext hn) hv (hSt.call hK hn hA)⟩

end
end Go.Proofs.Ytopgdemmdcipcaa
