/- Rules for addresses, loads and pieces of values. Nothing of the program is named here. -/
import Derived.Test.YtopgdemmdcipcaaDd
namespace Go.Proofs.Ytopgdemmdcipcaa
open Go.RowKit
open Rep (rep)

/-! Facts of types, one by one. -/
def FA (P : Program) (s : TypeId) (f o : Nat) : Prop := ∃ fields fd k, P.underlying s = some (.struct fields) ∧ fields[f]? = some fd ∧ (P.info? fd.type).map (·.size) = some (k + 1) ∧ fd.offset = o
def IA (P : Program) (t : TypeId) (n k : Nat) : Prop := ∃ e, P.underlying t = some (.array n e) ∧ (P.info? e).map (·.size) = some k
def IL (P : Program) (t : TypeId) (k : Nat) : Prop := ∃ e, P.underlying t = some (.slice e) ∧ (P.info? e).map (·.size) = some k
def TS (P : Program) (t : TypeId) : Prop := ∃ d, P.underlying t = some d ∧ d.isRow = false
def TA (P : Program) (t : TypeId) (n : Nat) : Prop := ∃ d, P.underlying t = some d ∧ d.isRow = true ∧ (P.info? t).map (·.size) = some n

/-- In every world of S block b begins with these cells. -/
def BV (S : World → Prop) (b : Nat) (cs : List Value) : Prop := ∀ w, S w → ∃ arr t fr, w.heap[b]? = some (.cells arr t fr) ∧ cs <+: arr.toList

theorem St.bvM {w0 w : World} {X : Nat → Prop} {M : Mm} {H : List Ent} (h : St w0 X M H w) {b : Nat} {p : List Value} (hb : M b = some p) : BV (· = w) b p := fun _ e => e ▸ h.agree b p hb
theorem Agree.bv {w : World} {M : Mm} (h : Agree M w) {b : Nat} {p : List Value} (hb : M b = some p) : BV (· = w) b p := fun _ e => e ▸ h b p hb
theorem St.bvB {w0 w : World} {X : Nat → Prop} {M : Mm} {H : List Ent} (h : St w0 X M H w) (j : Nat) {b : Nat} {cs : List Value} {t : TypeId} (hj : H[j]? = some (.box b cs t)) : BV (· = w) b cs := fun _ e => by
  subst e
  exact ⟨cs.toArray, t, (0, 0), (h.ents _ (List.mem_of_getElem? hj)).1, by simp⟩

theorem run_sizeOf' {P : Program} {t : TypeId} {n : Nat} (h : (P.info? t).map (·.size) = some n) (w : World) : (sizeOf t).run P w = .ok n w := by
  cases hi : P.info? t with
  | none => rw [hi] at h; cases h
  | some i =>
    rw [hi] at h
    simp only [Option.map_some, Option.some.injEq] at h
    subst h
    simp [sizeOf, typeInfo, hi, Sem.run_bind]

section
variable {P : Program} {S : World → Prop} {T : Tm} {dst : Option Tmp} {ty : TypeId} {pos : String} {af : Array Edge} {g : Option (Nat × Bool)}

theorem Y_fa {s : TypeId} {f o b off : Nat} {x : Operand} (hf : FA P s f o) (hx : evT T x = .pointer (some ⟨b, off, none⟩)) : YV P S T ⟨dst, .fieldAddr s x f, ty, pos, af, g⟩ (.pointer (some ⟨b, off + o, none⟩)) := by
  intro w _
  obtain ⟨fields, fd, k, h1, h2, h3, rfl⟩ := hf
  simp [execOp, hx, Instr.fieldAt, Sem.run_bind, run_underlying h1 w, h2, Instr.sureAddr, fieldPlace, run_sizeOf' h3, Addr.add_mid]

theorem Y_ixA {t : TypeId} {n k b off : Nat} {x y : Operand} {kk : IntKind} {j : Int} (ht : IA P t n k) (hx : evT T x = .pointer (some ⟨b, off, none⟩)) (hy : evT T y = .int kk j) (h0 : 0 ≤ j) (h1 : j < n) :
    YV P S T ⟨dst, .indexAddr t x y, ty, pos, af, g⟩ (.pointer (some ⟨b, off + j.toNat * k, none⟩)) := by
  intro w _
  obtain ⟨e, h2, h3⟩ := ht
  simp [execOp, hx, hy, Instr.indexAt, asIntOf, Sem.run_bind, run_underlying h2 w, Instr.sureAddr, h0, h1, run_sizeOf' h3, Addr.add_mid]

theorem Y_ixL {t : TypeId} {k b off len cap : Nat} {x y : Operand} {kk : IntKind} {j : Int} {v : Value} (ht : IL P t k) (hx : evT T x = v) (hv : v = .slice (some ⟨b, off, none⟩) len cap) (hy : evT T y = .int kk j) (h0 : 0 ≤ j) (h1 : j < len) :
    YV P S T ⟨dst, .indexAddr t x y, ty, pos, af, g⟩ (.pointer (some ⟨b, off + j.toNat * k, none⟩)) := by
  intro w _
  subst hv
  obtain ⟨e, h2, h3⟩ := ht
  simp [execOp, hx, hy, Instr.indexAt, asIntOf, Sem.run_bind, run_underlying h2 w, h0, h1, run_sizeOf' h3, Addr.add_mid]

theorem sl_one {cs : List Value} {o : Nat} {v : Value} (h : sl cs o 1 = [v]) : cs[o]? = some v := by
  have := sl_get cs o 1 0 (by omega)
  rw [h] at this
  simpa using this.symm

theorem Y_ld1 {t : TypeId} {b off : Nat} {x : Operand} {cs : List Value} (v : Value) (ht : TS P t) (hx : evT T x = .pointer (some ⟨b, off, none⟩)) (hb : BV S b cs) (hc : sl cs off 1 = [v]) : YV P S T ⟨dst, .load t x, ty, pos, af, g⟩ v := by
  intro w hS
  obtain ⟨d, h1, h2⟩ := ht
  obtain ⟨arr, t', fr, h3, h4⟩ := hb w hS
  have hcell : w.cell? ⟨b, off, none⟩ = some v := by
    have := sl_one hc
    obtain ⟨r, hr⟩ := h4
    simp only [World.cell?, h3]
    rw [← Array.getElem?_toList, ← hr, List.getElem?_append_left (List.getElem?_eq_some_iff.1 this).1]
    simpa using this
  have hagg : (isAgg t).run P w = .ok false w := by
    unfold isAgg
    rw [Sem.run_bind, run_underlying h1 w]
    cases d <;> simp_all [TypeDesc.isRow]
  simp [execOp, hx, Instr.loadAt, Instr.sureAddr, loadVar, Sem.run_bind, hagg, load, Sem.run, hcell]

theorem rangeAt_of {w : World} {b off n : Nat} {cs : List Value} {arr : Array Value} {t : TypeId} {fr : Nat × Nat} (h3 : w.heap[b]? = some (.cells arr t fr)) (h4 : cs <+: arr.toList) : w.rangeAt b off (sl cs off n) := by
  intro j v hj
  have hjn : j < n := by
    rcases Nat.lt_or_ge j n with h | h
    · exact h
    · rw [sl_get_none _ _ _ _ h] at hj; cases hj
  rw [sl_get _ _ _ _ hjn] at hj
  obtain ⟨r, hr⟩ := h4
  simp only [World.cell?, h3]
  rw [← Array.getElem?_toList, ← hr, List.getElem?_append_left (List.getElem?_eq_some_iff.1 hj).1]
  simpa using hj

theorem Y_ldn {t : TypeId} {b off n : Nat} {x : Operand} {cs : List Value} (ht : TA P t n) (hx : evT T x = .pointer (some ⟨b, off, none⟩)) (hb : BV S b cs) (hl : (sl cs off n).length = n) : YV P S T ⟨dst, .load t x, ty, pos, af, g⟩ (.agg (sl cs off n).toArray) := by
  intro w hS
  obtain ⟨d, h1, h2, h5⟩ := ht
  obtain ⟨arr, t', fr, h3, h4⟩ := hb w hS
  have := run_loadAt_mid (P := P) w b off t (sl cs off n) d (rangeAt_of h3 h4) h1 h2 (by rw [hl]; exact h5)
  simp [execOp, hx, this]

theorem run_part1' {e : TypeId} (he : TS P e) (cs : Array Value) (k : Nat) (v : Value) (hv : cs[k]? = some v) (w : World) : (part e cs k).run P w = .ok v w := by
  obtain ⟨d, h1, h2⟩ := he
  have hagg : (isAgg e).run P w = .ok false w := by
    unfold isAgg
    rw [Sem.run_bind, run_underlying h1 w]
    cases d <;> simp_all [TypeDesc.isRow]
  simp [part, Sem.run_bind, hagg, hv]
theorem run_partn {e : TypeId} {n : Nat} (he : TA P e n) (cs : List Value) (k : Nat) (w : World) : (part e cs.toArray k).run P w = .ok (.agg (sl cs k n).toArray) w := by
  obtain ⟨d, h1, h2, h3⟩ := he
  have hagg : (isAgg e).run P w = .ok true w := by
    unfold isAgg
    rw [Sem.run_bind, run_underlying h1 w]
    cases d <;> simp_all [TypeDesc.isRow]
  simp [part, Sem.run_bind, hagg, run_sizeOf' h3, sl]

/-- An element of an array by value, of one cell. -/
def IV1 (P : Program) (t : TypeId) (n : Nat) : Prop := ∃ e, P.underlying t = some (.array n e) ∧ (P.info? e).map (·.size) = some 1 ∧ TS P e
def IVn (P : Program) (t : TypeId) (n k : Nat) : Prop := ∃ e, P.underlying t = some (.array n e) ∧ (P.info? e).map (·.size) = some k ∧ TA P e k
theorem Y_ixV1 {t : TypeId} {n : Nat} {x y : Operand} {kk : IntKind} {j : Int} {cs : List Value} (v : Value) (ht : IV1 P t n) (hx : evT T x = .agg cs.toArray) (hy : evT T y = .int kk j) (h0 : 0 ≤ j) (h1 : j < n) (hc : sl cs (j.toNat * 1) 1 = [v]) :
    YV P S T ⟨dst, .index t x y, ty, pos, af, g⟩ v := by
  intro w _
  obtain ⟨e, h2, h3, h4⟩ := ht
  have hc' := sl_one hc
  have hp := run_part1' h4 cs.toArray (j.toNat * 1) v (by simpa using hc') w
  simp only [Nat.mul_one] at hp
  simp [execOp, hx, hy, Instr.index, asIntOf, Sem.run_bind, run_underlying h2 w, h0, h1, run_sizeOf' h3, hp]
theorem Y_ixVn {t : TypeId} {n k : Nat} {x y : Operand} {kk : IntKind} {j : Int} {cs : List Value} (ht : IVn P t n k) (hx : evT T x = .agg cs.toArray) (hy : evT T y = .int kk j) (h0 : 0 ≤ j) (h1 : j < n) :
    YV P S T ⟨dst, .index t x y, ty, pos, af, g⟩ (.agg (sl cs (j.toNat * k) k).toArray) := by
  intro w _
  obtain ⟨e, h2, h3, h4⟩ := ht
  simp [execOp, hx, hy, Instr.index, asIntOf, Sem.run_bind, run_underlying h2 w, h0, h1, run_sizeOf' h3, run_partn h4]

/-- A field of a struct by value. -/
def FV1 (P : Program) (s : TypeId) (f o : Nat) : Prop := ∃ fields fd, P.underlying s = some (.struct fields) ∧ fields[f]? = some fd ∧ TS P fd.type ∧ fd.offset = o
def FVn (P : Program) (s : TypeId) (f o n : Nat) : Prop := ∃ fields fd, P.underlying s = some (.struct fields) ∧ fields[f]? = some fd ∧ TA P fd.type n ∧ fd.offset = o
theorem Y_fv1 {s : TypeId} {f o : Nat} {x : Operand} {cs : List Value} (v : Value) (hf : FV1 P s f o) (hx : evT T x = .agg cs.toArray) (hc : sl cs o 1 = [v]) : YV P S T ⟨dst, .field s x f, ty, pos, af, g⟩ v := by
  intro w _
  obtain ⟨fields, fd, h1, h2, h3, rfl⟩ := hf
  have hp := run_part1' h3 cs.toArray fd.offset v (by simpa using sl_one hc) w
  simp [execOp, hx, Instr.field, asAgg, Sem.run_bind, run_underlying h1 w, h2, hp]
theorem Y_fvn {s : TypeId} {f o n : Nat} {x : Operand} {cs : List Value} (hf : FVn P s f o n) (hx : evT T x = .agg cs.toArray) : YV P S T ⟨dst, .field s x f, ty, pos, af, g⟩ (.agg (sl cs o n).toArray) := by
  intro w _
  obtain ⟨fields, fd, h1, h2, h3, rfl⟩ := hf
  simp [execOp, hx, Instr.field, asAgg, Sem.run_bind, run_underlying h1 w, h2, run_partn h3]

/-- A byte of a string. -/
def idxS (s : ByteArray) (j : Int) : Option Int := if 0 ≤ j then (s[j.toNat]?).map (fun b => (b.toNat : Int)) else none
theorem Y_ixS {t : TypeId} {x y : Operand} {kk : IntKind} {j c : Int} {s : ByteArray} (ht : P.underlying t = some .string) (hx : evT T x = .string s) (hy : evT T y = .int kk j) (hj : idxS s j = some c) : YV P S T ⟨dst, .index t x y, ty, pos, af, g⟩ (.int .u8 c) := by
  intro w _
  unfold idxS at hj
  split at hj
  · rename_i h0
    cases hb : s[j.toNat]? with
    | none => rw [hb] at hj; cases hj
    | some b =>
      rw [hb] at hj
      simp only [Option.map_some, Option.some.injEq] at hj
      subst hj
      simp [execOp, hx, hy, Instr.index, asIntOf, Sem.run_bind, run_underlying ht w, h0, hb]
  · cases hj

/-- The bounds of a cut: a lower and an upper one, if they are given. -/
def cutOk (n : Nat) (lo hi : Option Int) : Option (Nat × Nat) :=
  let h := hi.getD n
  let l := lo.getD 0
  if 0 ≤ l ∧ l ≤ h ∧ h ≤ n then some (l.toNat, h.toNat) else none
def evI (T : Tm) : Option Operand → Option Int → Prop
  | none, none => True
  | some x, some i => evT T x = .int .i64 i
  | _, _ => False

theorem run_sliceBounds {b : Bool} {len cap : Nat} {lo hi : Option Operand} {l h : Option Int} {p q : Nat} (hl : evI T lo l) (hh : evI T hi h) (hc : cutOk len l h = some (p, q)) (hcap : len ≤ cap) (w : World) :
    (Instr.sliceBounds b len cap (lo.map (evT T)) (hi.map (evT T)) none).run P w = .ok (p, q, cap) w := by
  unfold cutOk at hc
  simp only at hc
  split at hc
  · rename_i hk
    simp only [Option.some.injEq, Prod.mk.injEq] at hc
    obtain ⟨rfl, rfl⟩ := hc
    cases lo <;> cases l <;> simp only [evI] at hl <;> cases hi <;> cases h <;> simp only [evI] at hh <;> simp only [Option.getD_some, Option.getD_none] at hk ⊢
    · simp [Instr.sliceBounds]
    · have h1 : 0 ≤ (‹Int› : Int) ∧ (‹Int› : Int) ≤ (cap : Int) := by omega
      simp [Instr.sliceBounds, hh, Instr.sliceBound, asIntOf, h1]
    · have h1 : 0 ≤ (‹Int› : Int) ∧ (‹Int› : Int) ≤ (len : Int) := by omega
      simp [Instr.sliceBounds, hl, Instr.sliceBound, asIntOf, h1]
    · rename_i x1 i1 x2 i2
      have h1 : 0 ≤ i2 ∧ i2 ≤ (cap : Int) := by omega
      have h2 : 0 ≤ i1 ∧ i1 ≤ ((i2.toNat : Nat) : Int) := by omega
      simp [Instr.sliceBounds, hl, hh, Instr.sliceBound, asIntOf, h1, h2]
      omega
  · cases hc

theorem Y_cutS {t : TypeId} {x : Operand} {lo hi : Option Operand} {l h : Option Int} {s : ByteArray} {p q : Nat} (ht : P.underlying t = some .string) (hx : evT T x = .string s) (hl : evI T lo l) (hh : evI T hi h) (hc : cutOk s.size l h = some (p, q)) :
    YV P S T ⟨dst, .slice t x lo hi none, ty, pos, af, g⟩ (.string (s.extract p q)) := by
  intro w _
  have hb := run_sliceBounds (P := P) (b := false) (cap := s.size) hl hh hc (Nat.le_refl _) w
  simp [execOp, hx, Instr.sliceAt, Instr.slice, Sem.run_bind, run_underlying ht w, hb]

def cutV (v : Value) (k p q : Nat) : Value :=
  match v with
  | .slice a _ cap => .slice (if cap = p then a else a.map (·.add (p * k))) (q - p) (cap - p)
  | v => v
theorem repL_cut {α : Type} [Rep α] {M : Mm} {v : Value} {l : List α} (hr : repL M v l) {lo hi : Option Int} {p q : Nat} (hc : cutOk l.length lo hi = some (p, q)) : repL M (cutV v (Rep.k α) p q) ((l.take q).drop p) := by
  obtain ⟨a, cap, rfl, h1, h2, h3, h4⟩ := hr
  unfold cutOk at hc
  simp only at hc
  split at hc
  · rename_i hk
    simp only [Option.some.injEq, Prod.mk.injEq] at hc
    obtain ⟨rfl, rfl⟩ := hc
    generalize lo.getD 0 = lo at *
    generalize hi.getD (l.length : Int) = hi at *
    have hlen : ((l.take hi.toNat).drop lo.toNat).length = hi.toNat - lo.toNat := by simp; omega
    refine ⟨if cap = lo.toNat then a else a.map (·.add (lo.toNat * Rep.k α)), cap - lo.toNat, ?_, ?_, ?_, ?_, ?_⟩
    · simp only [cutV, hlen]
    · rw [hlen]; omega
    · intro hn
      split at hn
      · omega
      · cases a with
        | none => have := h2 rfl; omega
        | some a => cases hn
    · rw [hlen]
      refine Nat.le_trans (Nat.mul_le_mul_right _ ?_) h3
      omega
    · intro i x hx
      rw [List.getElem?_drop, List.getElem?_take] at hx
      split at hx
      · rename_i hlt
        obtain ⟨b, off, m, rfl, hb, hle, hrep⟩ := h4 _ x hx
        have hne : ¬ cap = lo.toNat := by omega
        refine ⟨b, off + lo.toNat * Rep.k α, m, by rw [if_neg hne]; simp [Addr.add_mid], hb, ?_, ?_⟩
        · rw [Nat.add_mul] at hle; omega
        · rw [Nat.add_mul, ← Nat.add_assoc] at hrep; exact hrep
      · cases hx
  · cases hc
theorem Y_cutL {t : TypeId} {k n : Nat} {x : Operand} {lo hi : Option Operand} {l h : Option Int} {v : Value} {p q cap : Nat} {a : Option Addr} (ht : IL P t k) (hx : evT T x = v) (hv : v = .slice a n cap) (hl : evI T lo l) (hh : evI T hi h) (hc : cutOk n l h = some (p, q)) (hn : n ≤ cap) :
    YV P S T ⟨dst, .slice t x lo hi none, ty, pos, af, g⟩ (cutV v k p q) := by
  intro w _
  subst hv
  obtain ⟨e, h1, h2⟩ := ht
  have hb := run_sliceBounds (P := P) (b := true) (cap := cap) hl hh hc hn w
  simp [execOp, hx, Instr.sliceAt, Instr.slice, Sem.run_bind, run_underlying h1 w, hb, run_sizeOf' h2, cutV]

end

/-! Data out of lists. -/
def idx {α : Type} (l : List α) (j : Int) : Option α := if 0 ≤ j then l[j.toNat]? else none
theorem idx_some {α : Type} {l : List α} {j : Int} {x : α} (h : idx l j = some x) : 0 ≤ j ∧ j < l.length ∧ l[j.toNat]? = some x := by
  unfold idx at h
  split at h
  · have := (List.getElem?_eq_some_iff.1 h).1
    exact ⟨by omega, by omega, h⟩
  · cases h
theorem repL_at {α : Type} [Rep α] {M : Mm} {v : Value} {l : List α} (h : repL M v l) {j : Int} {x : α} (hj : idx l j = some x) :
    ∃ b off cap p, v = .slice (some ⟨b, off, none⟩) l.length cap ∧ 0 ≤ j ∧ j < l.length ∧ M b = some p ∧ rep M (sl p (off + j.toNat * Rep.k α) (Rep.k α)) x := by
  obtain ⟨h0, h1, hx⟩ := idx_some hj
  obtain ⟨a, cap, rfl, _, _, _, h4⟩ := h
  obtain ⟨b, off, p, rfl, hb, _, hr⟩ := h4 _ x hx
  exact ⟨b, off, cap, p, rfl, h0, h1, hb, hr⟩
theorem repL_shape {α : Type} [Rep α] {M : Mm} {v : Value} {l : List α} (h : repL M v l) : ∃ a cap, v = .slice a l.length cap ∧ l.length ≤ cap := by
  obtain ⟨a, cap, rfl, h1, _⟩ := h
  exact ⟨a, cap, rfl, h1⟩
def idxV {α : Type} {n : Nat} (l : Vector α n) (j : Int) : Option α := if 0 ≤ j then l[j.toNat]? else none
theorem idxV_some {α : Type} {n : Nat} {l : Vector α n} {j : Int} {x : α} (h : idxV l j = some x) : 0 ≤ j ∧ j < n ∧ ∃ h : j.toNat < n, l[j.toNat] = x := by
  unfold idxV at h
  split at h
  · have := Vector.getElem?_eq_some_iff.1 h
    obtain ⟨h1, h2⟩ := this
    exact ⟨by omega, by omega, h1, h2⟩
  · cases h
theorem repV_at {α : Type} [Rep α] {n : Nat} {M : Mm} {cs : List Value} {l : Vector α n} (h : rep M cs l) {j : Int} {x : α} (hj : idxV l j = some x) : 0 ≤ j ∧ j < n ∧ rep M (sl cs (j.toNat * Rep.k α) (Rep.k α)) x := by
  obtain ⟨h0, h1, h2, rfl⟩ := idxV_some hj
  exact ⟨h0, h1, h.2.2 _ h2⟩
def setV {α : Type} {n : Nat} (l : Vector α n) (j : Int) (x : α) : Option (Vector α n) := if 0 ≤ j ∧ j < n then some (l.setIfInBounds j.toNat x) else none
theorem setV_some {α : Type} {n : Nat} {l l' : Vector α n} {j : Int} {x : α} (h : setV l j x = some l') : 0 ≤ j ∧ j < n ∧ l' = l.setIfInBounds j.toNat x := by
  unfold setV at h
  split at h
  · rename_i hk
    exact ⟨hk.1, hk.2, (Option.some.inj h).symm⟩
  · cases h
theorem repV_set {α : Type} [Rep α] {n : Nat} {M : Mm} {cs ws : List Value} {l l' : Vector α n} (h : rep M cs l) {j : Int} {x : α} (hx : rep M ws x) (hj : setV l j x = some l') : rep M (pt cs (j.toNat * Rep.k α) ws) l' := by
  obtain ⟨h0, h1, rfl⟩ := setV_some hj
  obtain ⟨e1, e2, e3⟩ := h
  have hw := Rep.len hx
  have hjn : j.toNat < n := by omega
  have hle : j.toNat * Rep.k α + Rep.k α ≤ cs.length := by
    rw [e1]
    have := Nat.mul_le_mul_right (Rep.k α) (show j.toNat + 1 ≤ n by omega)
    rw [Nat.add_mul, Nat.one_mul] at this
    exact this
  refine ⟨by rw [pt_length (by omega)]; exact e1, e2, fun i hi => ?_⟩
  rw [Vector.getElem_setIfInBounds]
  by_cases e : j.toNat = i
  · subst e
    rw [if_pos rfl, sl_pt_same (by omega) hw]
    exact hx
  · rw [if_neg e, sl_pt_apart (by omega)]
    · exact e3 i hi
    · rcases Nat.lt_or_gt_of_ne e with hlt | hlt
      · right
        rw [hw]
        have := Nat.mul_le_mul_right (Rep.k α) (show j.toNat + 1 ≤ i by omega)
        rw [Nat.add_mul, Nat.one_mul] at this
        exact this
      · left
        have := Nat.mul_le_mul_right (Rep.k α) (show i + 1 ≤ j.toNat by omega)
        rw [Nat.add_mul, Nat.one_mul] at this
        exact this

end Go.Proofs.Ytopgdemmdcipcaa
