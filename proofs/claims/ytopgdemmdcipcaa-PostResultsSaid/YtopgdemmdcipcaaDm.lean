/- Equality of structs and arrays, tests for nil, empty rows, arrays of zeros. Nothing of the program is named here. -/
import Derived.Test.YtopgdemmdcipcaaDj
import Derived.Laws.StructEq
import Derived.ChangeKeysEq
namespace Go.Proofs.Ytopgdemmdcipcaa
open Go.RowKit
open Rep (rep)

/-- What equality tells of a part of a row. -/
def EQ (P : Program) (t : TypeId) (α : Type) [Rep α] [DecidableEq α] (n : Nat) : Prop :=
  ∀ (M M' : Mm) (w : World) (d : Nat) (xs ys : List Value) (o o' : Nat) (x y : α), n ≤ d → rep M (sl xs o (Rep.k α)) x → rep M' (sl ys o' (Rep.k α)) y →
    ∃ a b, (part t xs.toArray o).run P w = .ok a w ∧ (part t ys.toArray o').run P w = .ok b w ∧ (Op.equalIn d t a b).run P w = .ok (decide (x = y)) w
/-- .. of a whole. -/
def EV (P : Program) (t : TypeId) (α : Type) [Rep α] [DecidableEq α] (n : Nat) : Prop :=
  ∀ (M M' : Mm) (w : World) (d : Nat) (xs ys : List Value) (x y : α), n ≤ d → rep M xs x → rep M' ys y →
    (Op.equalIn d t (.agg xs.toArray) (.agg ys.toArray)).run P w = .ok (decide (x = y)) w

section
variable {P : Program} {t e : TypeId}
theorem eq_int (ht : P.underlying t = some (.int .i64)) : EQ P t Int 1 := by
  intro M M' w d xs ys o o' x y hd hx hy
  have hx : sl xs o 1 = [.int .i64 x] := hx
  have hy : sl ys o' 1 = [.int .i64 y] := hy
  obtain ⟨d, rfl⟩ : ∃ e, d = e + 1 := ⟨d - 1, by omega⟩
  refine ⟨_, _, run_part1' ⟨_, ht, rfl⟩ _ _ _ (by simpa using sl_one hx) w, run_part1' ⟨_, ht, rfl⟩ _ _ _ (by simpa using sl_one hy) w, ?_⟩
  rw [run_equalIn_int w d t .i64 .i64 x y ht]
  rfl
theorem eq_bool (ht : P.underlying t = some .bool) : EQ P t Bool 1 := by
  intro M M' w d xs ys o o' x y hd hx hy
  have hx : sl xs o 1 = [.bool x] := hx
  have hy : sl ys o' 1 = [.bool y] := hy
  obtain ⟨d, rfl⟩ : ∃ e, d = e + 1 := ⟨d - 1, by omega⟩
  refine ⟨_, _, run_part1' ⟨_, ht, rfl⟩ _ _ _ (by simpa using sl_one hx) w, run_part1' ⟨_, ht, rfl⟩ _ _ _ (by simpa using sl_one hy) w, ?_⟩
  rw [run_equalIn_bool' w d t x y ht]
  cases x <;> cases y <;> rfl

variable {α : Type} [Rep α] [DecidableEq α]
theorem run_eqItems {n m d : Nat} (he : EQ P e α n) (hd : n ≤ d) (hc : P.cellsOf e = Rep.k α) {M M' : Mm} {w : World} {xs ys : List Value} {x y : Vector α m} (hx : rep M xs x) (hy : rep M' ys y) : ∀ (is : List Nat), (∀ i ∈ is, i < m) →
    (Op.eqItems d e (P.cellsOf e) xs.toArray ys.toArray is).run P w = .ok (is.all fun i => decide (x[i]? = y[i]?)) w
  | [], _ => by simp [Op.eqItems]
  | i :: is, h => by
    have hi := h i List.mem_cons_self
    have ih := run_eqItems (w := w) he hd hc hx hy is fun j hj => h j (List.mem_cons_of_mem _ hj)
    obtain ⟨_, _, hx3⟩ := hx
    obtain ⟨_, _, hy3⟩ := hy
    obtain ⟨a, b, h1, h2, h3⟩ := he M M' w d xs ys (i * Rep.k α) (i * Rep.k α) x[i] y[i] hd (hx3 i hi) (hy3 i hi)
    rw [← hc] at h1 h2
    simp only [Op.eqItems, Sem.run_bind, h1, h2, h3, Result.andThen_ok, List.all_cons]
    have e1 : x[i]? = some x[i] := by simp [hi]
    have e2 : y[i]? = some y[i] := by simp [hi]
    rw [e1, e2]
    by_cases hxy : x[i] = y[i]
    · simp only [hxy, decide_true, Bool.not_true, Bool.false_eq_true, if_false, Bool.true_and]
      exact ih
    · simp [hxy]
theorem ev_array {m n : Nat} (ht : P.underlying t = some (.array m e)) (hi : (P.info? e).isSome = true) (hc : P.cellsOf e = Rep.k α) (he : EQ P e α n) : EV P t (Vector α m) (n + 1) := by
  intro M M' w d xs ys x y hd hx hy
  obtain ⟨d, rfl⟩ : ∃ e, d = e + 1 := ⟨d - 1, by omega⟩
  obtain ⟨i, hi⟩ := Option.isSome_iff_exists.1 hi
  rw [run_equalIn_array w d _ _ ht hi, run_eqItems he (by omega) hc hx hy (List.range m) fun j hj => List.mem_range.1 hj]
  congr 1
  rw [Bool.eq_iff_iff]
  simp only [List.all_eq_true, List.mem_range, decide_eq_true_eq]
  constructor
  · intro h
    refine Vector.ext fun j hj => ?_
    have := h j hj
    simpa [hj] using this
  · intro h j hj
    rw [h]
theorem eqf_nil {d : Nat} {xs ys : Array Value} (w : World) : (Op.eqFields d xs ys []).run P w = .ok true w := by simp [Op.eqFields]
theorem eqf_cons {f : Field} {fs : List Field} {d n o k : Nat} {xs ys : List Value} {M M' : Mm} {w : World} {x y : α} {r : Bool} (hn : f.name ≠ "_") (he : EQ P e α n) (hte : f.type = e) (hd : n ≤ d) (ho : f.offset = o) (hk : Rep.k α = k) (hx : rep M (sl xs o k) x) (hy : rep M' (sl ys o k) y)
    (hr : (Op.eqFields d xs.toArray ys.toArray fs).run P w = .ok r w) : (Op.eqFields d xs.toArray ys.toArray (f :: fs)).run P w = .ok (decide (x = y) && r) w := by
  subst hte
  subst ho
  subst hk
  obtain ⟨a, b, h1, h2, h3⟩ := he M M' w d xs ys f.offset f.offset x y hd hx hy
  simp only [Op.eqFields, hn, ne_eq, not_false_eq_true, if_true, Sem.run_bind, h1, h2, h3, Result.andThen_ok]
  by_cases hxy : x = y
  · simpa [hxy] using hr
  · simp [hxy]

/-- A type whose values may be compared. -/
def EG (P : Program) (t : TypeId) (α : Type) [Rep α] [DecidableEq α] : Prop := P.eqGuardType P.depth t = false ∧ EV P t α 5

theorem EV.le {n m : Nat} (h : EV P t α n) (hm : n ≤ m) : EV P t α m := fun M M' w d xs ys x y hd hx hy => h M M' w d xs ys x y (Nat.le_trans hm hd) hx hy
end

section
variable {P : Program} {T : Tm} {S : World → Prop} {dst : Option Tmp} {ty : TypeId} {pos : String} {af : Array Edge} {g : Option (Nat × Bool)} {x y : Operand} {t u : TypeId}
theorem Y_eqA {α : Type} [Rep α] [DecidableEq α] {M M' : Mm} {cs ds : List Value} {a b : α} (hx : evT T x = .agg cs.toArray) (hy : evT T y = .agg ds.toArray) (hg : EG P t α) (h1 : rep M cs a) (h2 : rep M' ds b) : YV P S T ⟨dst, .binOp .eql t x y u, ty, pos, af, g⟩ (.bool (decide (a = b))) := by
  intro w _
  have := hg.2 M M' w 10000 cs ds a b (by decide) h1 h2
  simp [execOp, hx, hy, Sem.run_bind, run_eqGuard_agg w .eql t x y _ _ hg.1, run_eql_struct, this]
theorem Y_neA {α : Type} [Rep α] [DecidableEq α] {M M' : Mm} {cs ds : List Value} {a b : α} (hx : evT T x = .agg cs.toArray) (hy : evT T y = .agg ds.toArray) (hg : EG P t α) (h1 : rep M cs a) (h2 : rep M' ds b) : YV P S T ⟨dst, .binOp .neq t x y u, ty, pos, af, g⟩ (.bool (!decide (a = b))) := by
  intro w _
  have := hg.2 M M' w 10000 cs ds a b (by decide) h1 h2
  simp [execOp, hx, hy, Sem.run_bind, run_eqGuard_agg w .neq t x y _ _ hg.1, run_neq_struct, this]

def isNilV : Value → Bool
  | .slice none _ _ => true
  | _ => false
theorem repL_isNil {α : Type} [Rep α] {M : Mm} {v : Value} {l : List α} (h : repL M v l) (hn : isNilV v = true) : l = [] := by
  obtain ⟨a, cap, rfl, h1, h2, _⟩ := h
  cases a with
  | none =>
    have := h2 rfl
    exact List.length_eq_zero_iff.1 (by omega)
  | some a => cases hn
theorem Y_eqNilL {α : Type} [Rep α] {M : Mm} {v : Value} {l : List α} {e : TypeId} (hx : evT T x = v) (hy : evT T y = .slice none 0 0) (ht : P.underlying t = some (.slice e)) (h : repL M v l) : YV P S T ⟨dst, .binOp .eql t x y u, ty, pos, af, g⟩ (.bool (isNilV v)) := by
  intro w _
  obtain ⟨a, cap, rfl, _⟩ := h
  have h1 : (Op.equal t (.slice a l.length cap) (.slice none 0 0)).run P w = .ok (isNilV (.slice a l.length cap)) w := by
    have : Op.equal t (.slice a l.length cap) (.slice none 0 0) = Op.equalIn (9999 + 1) t (.slice a l.length cap) (.slice none 0 0) := rfl
    rw [this]
    unfold Op.equalIn
    cases a <;> simp [Sem.run_bind, run_underlying ht w, isNilV]
  have h2 : (eqGuard .eql t x y (.slice a l.length cap) (.slice none 0 0)).run P w = .ok () w := by simp [eqGuard]
  have h3 : (binOp .eql t (.slice a l.length cap) (.slice none 0 0)).run P w = .ok (.bool (isNilV (.slice a l.length cap))) w := by
    simp only [binOp]
    simp [h1]
  simp [execOp, hx, hy, Sem.run_bind, h2, h3]
theorem Y_zarr {zs : List Value} {n k : Nat} (hz : TZ P t zs) (ht : IA P t n k) : YV P S T ⟨dst, .build t #[], ty, pos, af, g⟩ (.agg zs.toArray) := by
  intro w _
  obtain ⟨i, z, h2, h3, h4⟩ := hz
  obtain ⟨e, h1, h5⟩ := ht
  have hz : z.cells = zs.toArray := by rw [← h4]
  simp only [execOp, Instr.build]
  simp [Sem.run_bind, zeroValue, typeInfo, h2, h3, run_underlying h1 w, run_sizeOf' h5, hz, Instr.fill]
end

section
variable {P : Program} {n : Nat} {Q : Exit → Tm → World → Prop} {T : Tm} {w0 w : World} {X : Nat → Prop} {M : Mm} {H : List Ent}
/-- An empty slice of one's own. -/
theorem O_bslice0R {K : Tm → World → Prop} {dst : Option Tmp} {ty : TypeId} {pos : String} {af : Array Edge} {g : Option (Nat × Bool)} {t e k b : Nat} (htp : TP P t e k b)
    (hSt : St w0 X M H w) (kk : ∀ v M' w', Mm.ext w0.heap.size X M M' → (∀ (α : Type) [Rep α], repL M' v ([] : List α)) → St w0 X M' (.row v e k :: H) w' → K (updO T dst v) w') : OW P n Q ⟨dst, .buildSlice t 0 #[], ty, pos, af, g⟩ T w K := by
  obtain ⟨hu, i, z, hi, hz, h2, h3, h1, hk, hb⟩ := htp
  have hrun : (Instr.buildSlice t 0 #[]).run P w = .ok (.slice (some ⟨w.heap.size, 0, none⟩) 0 0) (w.alloc (.cells #[] e)) := by
    simp only [Instr.buildSlice, Sem.run_bind, run_underlying hu w, Result.andThen, run_sizeOf' (P := P) (t := e) (n := k) (by rw [hi]; simp [h2]) w]
    have e0 : Array.range (0 * k) = #[] := by simp
    rw [if_neg (by simp)]
    simp only [e0]
    simp [Instr.fill, newRow, newObj]
    rfl
  have hnew : (w.alloc (.cells #[] e)).heap[w.heap.size]? = some (.cells #[] e (0, 0)) := by
    show (w.heap.push _)[w.heap.size]? = _
    simp
  have hS2 := hSt.allocM [] e
  refine OW.of_run (v := .slice (some ⟨w.heap.size, 0, none⟩) 0 0) (w' := w.alloc (.cells #[] e)) ?_ (kk _ _ _ (hSt.extM []) ?_ ⟨hS2.os, hS2.tape, hS2.output, hS2.size, hS2.frame, hS2.agree, fun f hf => ?_, fun f hf c hc => ?_, .cons (fun f hf c hc hc' => ?_) hS2.apart⟩)
  · simp only [execOp, Sem.run_bind]
    simp [hrun]
  · intro α _
    exact ⟨some ⟨w.heap.size, 0, none⟩, 0, rfl, Nat.le_refl _, fun h => (by cases h), by simp, fun i x hx => by simp at hx⟩
  · rcases List.mem_cons.1 hf with rfl | hf
    · exact ⟨0, [], ⟨by simp, .inr ⟨w.heap.size, 0, #[], rfl, Nat.zero_le _, hnew, Nat.le_refl _, Nat.zero_le _, by simp, by simp⟩⟩, fun g hg => by cases hg; exact Mm.put_same _ _ _⟩
    · exact hS2.ents f hf
  · rcases List.mem_cons.1 hf with rfl | hf
    · cases hc; exact .inr hSt.size
    · exact hS2.mine f hf c hc
  · cases hc
    exact absurd (Ent.lt (hSt.ents f hf) hc') (Nat.lt_irrefl _)
end

section
variable {w0 w : World} {X : Nat → Prop} {M : Mm} {H : List Ent}
/-- A box that is written no more is data. -/
theorem St.freeze {b : Nat} {cs : List Value} {t : TypeId} (j : Nat) (h : St w0 X M H w) (hj : H[j]? = some (.box b cs t)) : ∃ M', M' b = some cs ∧ Mm.ext w0.heap.size X M M' ∧ St w0 X M' (H.eraseIdx j) w := by
  have hmem : Ent.box b cs t ∈ H := List.mem_of_getElem? hj
  obtain ⟨hh, hMb⟩ := h.ents _ hmem
  have hsub := List.eraseIdx_sublist H j
  have hne : ∀ e ∈ H.eraseIdx j, ∀ c, e.blk = some c → c ≠ b := by
    intro e he c hc hcb
    subst hcb
    obtain ⟨i, hij, hi⟩ := List.mem_eraseIdx_iff_getElem?.1 he
    rcases Nat.lt_or_gt_of_ne hij with hlt | hlt
    · exact List.pairwise_iff_getElem.1 h.apart i j (List.getElem?_eq_some_iff.1 hi).1 (List.getElem?_eq_some_iff.1 hj).1 hlt c (by rw [(List.getElem?_eq_some_iff.1 hi).2]; exact hc) (by rw [(List.getElem?_eq_some_iff.1 hj).2]; rfl)
    · exact List.pairwise_iff_getElem.1 h.apart j i (List.getElem?_eq_some_iff.1 hj).1 (List.getElem?_eq_some_iff.1 hi).1 hlt c (by rw [(List.getElem?_eq_some_iff.1 hj).2]; rfl) (by rw [(List.getElem?_eq_some_iff.1 hi).2]; exact hc)
  refine ⟨M.put b cs, Mm.put_same _ _ _, ⟨Mm.put_le cs hMb, fun c hc hx => Mm.put_other _ _ fun hcb => ?_⟩, ⟨h.os, h.tape, h.output, h.size, h.frame, fun c p hc => ?_, fun e he => ?_, fun e he => h.mine e (hsub.subset he), h.apart.sublist hsub⟩⟩
  · subst hcb
    rcases h.mine _ hmem c rfl with h1 | h1
    · exact hx h1
    · omega
  · by_cases hcb : c = b
    · subst hcb
      rw [Mm.put_same] at hc
      cases hc
      exact ⟨_, t, (0, 0), hh, by simp⟩
    · rw [Mm.put_other _ _ hcb] at hc
      exact h.agree c p hc
  · exact Ent.kept (h.ents e (hsub.subset he)) fun c hc => ⟨rfl, Mm.put_other _ _ (hne e he c hc)⟩

theorem repL_arr {α : Type} [Rep α] {b off n : Nat} {cs : List Value} {vec : Vector α n} (hb : M b = some cs) (hl : off + n * Rep.k α ≤ cs.length) (h : rep M (sl cs off (n * Rep.k α)) vec) (hby : n * Rep.bytes α ≤ 140737488351232) : repL M (.slice (some ⟨b, off, none⟩) n n) vec.toList := by
  have hn : vec.toList.length = n := by simp
  refine ⟨some ⟨b, off, none⟩, n, by rw [hn], by rw [hn]; exact Nat.le_refl _, fun h => (by cases h), by rw [hn]; exact hby, fun i x hx => ?_⟩
  have hi : i < n := by
    have := (List.getElem?_eq_some_iff.1 hx).1
    omega
  have hik : i * Rep.k α + Rep.k α ≤ n * Rep.k α := by
    have := Nat.mul_le_mul_right (Rep.k α) (show i + 1 ≤ n by omega)
    rw [Nat.add_mul, Nat.one_mul] at this
    exact this
  obtain ⟨_, _, h3⟩ := h
  have := h3 i hi
  rw [sl_sl _ hik] at this
  have hxe : vec[i] = x := by
    have := (List.getElem?_eq_some_iff.1 hx).2
    simpa using this
  refine ⟨b, off, cs, rfl, hb, by omega, ?_⟩
  rw [← hxe]
  exact this
end
section
variable {P : Program} {T : Tm} {S : World → Prop} {dst : Option Tmp} {ty : TypeId} {pos : String} {af : Array Edge} {g : Option (Nat × Bool)}
theorem Y_cutA {t : TypeId} {k n b off : Nat} {x : Operand} {lo hi : Option Operand} {l h : Option Int} {p q : Nat} (ht : IA P t n k) (hx : evT T x = .pointer (some ⟨b, off, none⟩)) (hl : evI T lo l) (hh : evI T hi h) (hc : cutOk n l h = some (p, q)) :
    YV P S T ⟨dst, .slice t x lo hi none, ty, pos, af, g⟩ (cutV (.slice (some ⟨b, off, none⟩) n n) k p q) := by
  intro w _
  obtain ⟨e, h1, h2⟩ := ht
  have hb := run_sliceBounds (P := P) (b := false) (cap := n) hl hh hc (Nat.le_refl _) w
  simp [execOp, hx, Instr.sliceAt, Instr.sureAddr, Sem.run_bind, run_underlying h1 w, hb, run_sizeOf' h2, cutV]
  split <;> rfl
end

/-- A field of which nothing is said here: a slice that may turn stands in it. -/
structure Hole where
instance : Rep Hole where
  k := 1
  bytes := 24
  rep _ cs _ := ∃ v : Value, cs = [v] ∧ v.oneCell' = true
  len h := by obtain ⟨v, rfl, _⟩ := h; rfl
  mono _ h := h
  one h := by obtain ⟨v, rfl, h⟩ := h; simpa using h
instance : Zr Hole := ⟨Hole.mk, [.slice none 0 0], _, rfl, by simp [Value.oneCell']⟩
instance : Pos Hole := ⟨Nat.one_pos⟩
end Go.Proofs.Ytopgdemmdcipcaa
