/- Rules for operations that make or write memory, for calls and for returns. Nothing of the program is named here. -/
import Derived.Test.YtopgdemmdcipcaaDe
import Derived.Test.YtopgdemmdcipcaaStr
namespace Go.Proofs.Ytopgdemmdcipcaa
set_option linter.unusedVariables false
open Go.RowKit
open Rep (rep)

theorem run_callFunc_enter' {P : Program} {f : FuncId} {fn : Func} {c : Code} (hf : P.funcs[f]? = some fn) (hname : (fn.name == "runtime.NumGoroutine") = false) (hb : fn.body = some c) (args : Array Value) (w : World) :
    (callFunc f args).run P w = .ok (.enter f args) w := by
  have h1 : fn.name ≠ "runtime.NumGoroutine" := by simpa using hname
  simp [callFunc, hf, h1, hb]

theorem perm_front {α : Type} : ∀ {H : List α} {j : Nat} {e : α}, H[j]? = some e → H.Perm (e :: H.eraseIdx j)
  | [], _, _, h => by simp at h
  | a :: t, 0, e, h => by simp at h; subst h; exact List.Perm.refl _
  | a :: t, j + 1, e, h => by
    simp only [List.getElem?_cons_succ] at h
    simp only [List.eraseIdx_cons_succ]
    exact ((perm_front h).cons a).trans (List.Perm.swap _ _ _)
theorem perm_set {α : Type} : ∀ {H : List α} {j : Nat} {e : α} (e' : α), H[j]? = some e → (e' :: H.eraseIdx j).Perm (H.set j e')
  | [], _, _, _, h => by simp at h
  | a :: t, 0, e, e', h => by simp
  | a :: t, j + 1, e, e', h => by
    simp only [List.getElem?_cons_succ] at h
    simp only [List.eraseIdx_cons_succ, List.set_cons_succ]
    exact (List.Perm.swap _ _ _).trans ((perm_set e' h).cons a)

/-! Stores. -/

theorem pt_nil (cs : List Value) (o : Nat) : pt cs o [] = cs := by simp [pt]
theorem pt_cons (cs : List Value) (o : Nat) (v : Value) (ws : List Value) (h : o < cs.length) : pt (cs.set o v) (o + 1) ws = pt cs o (v :: ws) := by
  unfold pt
  rw [List.take_set, List.drop_set, if_pos (by omega)]
  rw [List.take_succ_eq_append_getElem h, List.set_append_right _ _ (by simp; omega)]
  simp only [List.length_take, List.length_cons, List.append_assoc]
  have : o - min o cs.length = 0 := by omega
  rw [this]
  simp only [List.set_cons_zero, List.cons_append, List.nil_append]
  congr 3
  congr 1
  omega

theorem run_storeCells_blk {P : Program} {b : Nat} {t : TypeId} {o : Nat} : ∀ (ws : List Value) (i : Nat) (w : World) (cs : List Value), w.heap[b]? = some (.cells cs.toArray t (0, 0)) → o + i + ws.length ≤ cs.length → (∀ u ∈ ws, u.oneCell' = true) →
    ∃ w', (storeCells ⟨b, o, none⟩ ws i).run P w = .ok () w' ∧ w'.os = w.os ∧ w'.tape = w.tape ∧ w'.output = w.output ∧ w'.heap[b]? = some (.cells (pt cs (o + i) ws).toArray t (0, 0)) ∧ (∀ k, k ≠ b → w'.heap[k]? = w.heap[k]?) ∧ w'.heap.size = w.heap.size := by
  intro ws
  induction ws with
  | nil => intro i w cs hb hl h1; exact ⟨w, by simp [storeCells], rfl, rfl, rfl, by rw [pt_nil]; exact hb, fun _ _ => rfl, rfl⟩
  | cons v ws ih =>
    intro i w cs hb hl h1
    simp only [List.length_cons] at hl
    have hv := h1 v List.mem_cons_self
    have hcell : w.cell? ⟨b, o + i, none⟩ = some (cs[o + i]'(by omega)) := by simp [World.cell?, hb]
    have hfr : w.frozen? ⟨b, o + i, none⟩ = false := by simp [World.frozen?, hb]
    have hb' : (w.setCell ⟨b, o + i, none⟩ v).heap[b]? = some (.cells (cs.set (o + i) v).toArray t (0, 0)) := by
      simp [World.setCell, Array.getElem?_modify, hb]
    obtain ⟨w', hr, e1, e2, e3, e4, e5, e6⟩ := ih (i + 1) (w.setCell ⟨b, o + i, none⟩ v) (cs.set (o + i) v) hb' (by simp; omega) (fun u hu => h1 u (List.mem_cons_of_mem _ hu))
    refine ⟨w', ?_, e1, e2, e3, ?_, fun k hk => ?_, ?_⟩
    · unfold storeCells
      rw [Sem.run_bind, Addr.add_mid, run_store P w _ v _ hv, hcell]
      simp only [hfr, Bool.false_eq_true, if_false, Result.andThen]
      exact hr
    · rw [e4, ← Nat.add_assoc, pt_cons _ _ _ _ (by omega)]
    · rw [e5 k hk]
      exact Below.heap_setCell _ _ _ _ hk
    · rw [e6]; simp [World.setCell]

section
variable {P : Program} {n : Nat} {Q : Exit → Tm → World → Prop} {T : Tm} {w w0 : World} {X : Nat → Prop} {M : Mm} {H : List Ent} {K : Tm → World → Prop} {dst : Option Tmp} {ty : TypeId} {pos : String} {af : Array Edge} {g : Option (Nat × Bool)}

theorem OW.of_run {o : Oper} {v : Value} {w' : World} (h : (execOp (evT T) o).run P w = .ok (.value v) w') (k : K (updO T o.dst v) w') : OW P n Q o T w K := by
  intro hok a ha
  unfold Oper.wp
  rw [ha.eval, h]
  exact ⟨_, ha.put o.dst v (operOk.lt hok), k⟩
theorem OW.of_skip {o : Oper} {w' : World} (h : (execOp (evT T) o).run P w = .ok .skip w') (k : K (updO T o.dst undef) w') : OW P n Q o T w K := by
  intro hok a ha
  unfold Oper.wp
  rw [ha.eval, h]
  exact ⟨_, ha.put o.dst undef (operOk.lt hok), k⟩

theorem O_st {j b off m : Nat} {cs ws : List Value} {t t' : TypeId} {x y : Operand} {v : Value} (hSt : St w0 X M H w) (hj : H[j]? = some (.box b cs t')) (hn : (P.info? t).map (·.size) = some m) (hx : evT T x = .pointer (some ⟨b, off, none⟩)) (hy : evT T y = v)
    (hv : v.cells.toList = ws) (hm : ws.length = m) (h1 : ∀ u ∈ ws, u.oneCell' = true) (hle : off + m ≤ cs.length) (k : ∀ w', St w0 X M (H.set j (.box b (pt cs off ws) t')) w' → K T w') :
    OW P n Q ⟨none, .store t x y, ty, pos, af, g⟩ T w K := by
  have hbx := (hSt.ents _ (List.mem_of_getElem? hj)).1
  obtain ⟨w', hr, e1, e2, e3, e4, e5, e6⟩ := run_storeCells_blk (P := P) (o := off) ws 0 w cs hbx (by omega) h1
  have hsz : v.cells.size = m := by rw [← hm, ← hv]; simp
  refine OW.of_skip (w' := w') ?_ ?_
  · simp [execOp, hx, hy, Instr.storeAt, Instr.sureAddr, storeVar, Sem.run_bind, run_sizeOf' hn, hsz, hv, hr]
  · exact k w' (((hSt.perm (perm_front hj)).write e1 e2 e3 e4 e5 e6).perm (perm_set _ hj))

def TZ (P : Program) (t : TypeId) (zs : List Value) : Prop := ∃ i z, P.info? t = some i ∧ i.zero = some z ∧ z.cells.toList = zs
theorem O_alloc {t : TypeId} {zs : List Value} (hz : TZ P t zs) (hSt : St w0 X M H w) (k : ∀ b w', w0.heap.size ≤ b → St w0 X M (.box b zs t :: H) w' → K (updO T dst (.pointer (some ⟨b, 0, none⟩))) w') : OW P n Q ⟨dst, .alloc t, ty, pos, af, g⟩ T w K := by
  obtain ⟨i, z, h1, h2, h3⟩ := hz
  have hc : z.cells = zs.toArray := by rw [← h3]
  refine OW.of_run (v := .pointer (some ⟨w.heap.size, 0, none⟩)) (w' := w.alloc (.cells zs.toArray t)) ?_ (k _ _ hSt.size (hSt.alloc zs t))
  simp [execOp, Instr.alloc, zeroValue, typeInfo, Sem.run_bind, h1, h2, newVar, newRow, newObj, hc]
  rfl
theorem O_box {t : TypeId} {x : Operand} {v : Value} {cs : List Value} (hx : evT T x = v) (hv : v.cells.toList = cs) (hSt : St w0 X M H w) (k : ∀ b w', w0.heap.size ≤ b → St w0 X M (.box b cs t :: H) w' → K (updO T dst (.pointer (some ⟨b, 0, none⟩))) w') : OW P n Q ⟨dst, .box t x, ty, pos, af, g⟩ T w K := by
  have hc : v.cells = cs.toArray := by rw [← hv]
  refine OW.of_run (v := .pointer (some ⟨w.heap.size, 0, none⟩)) (w' := w.alloc (.cells cs.toArray t)) ?_ (k _ _ hSt.size (hSt.alloc cs t))
  simp [execOp, Instr.box, hx, newVar, newRow, newObj, hc]
  rfl

/-! Values made of parts. -/
theorem foldl_set_pt : ∀ (vs : List Value) (cs : List Value) (off k : Nat), off + k + vs.length ≤ cs.length →
    (vs.zipIdx k).foldl (fun (c : Array Value) (x : Value × Nat) => c.setIfInBounds (off + x.2) x.1) cs.toArray = (pt cs (off + k) vs).toArray := by
  intro vs
  induction vs with
  | nil => intro cs off k _; simp [pt_nil]
  | cons v vs ih =>
    intro cs off k h
    simp only [List.length_cons] at h
    simp only [List.zipIdx_cons, List.foldl_cons]
    have := ih (cs.set (off + k) v) off (k + 1) (by simp; omega)
    rw [← Nat.add_assoc, pt_cons _ _ _ _ (by omega)] at this
    rw [← this]
    simp

/-- The parts of a value of this many fields, laid into a row. -/
def fillZ (place : Nat → Option (Nat × Nat)) : List Value → List (Nat × Value) → Option (List Value)
  | cs, [] => some cs
  | cs, (i, v) :: rest =>
    match place i with
    | none => none
    | some (off, size) => if v.cells.size = size ∧ off + size ≤ cs.length then fillZ place (pt cs off v.cells.toList) rest else none

theorem fill_of_fillZ {place : Nat → Option (Nat × Nat)} : ∀ (parts : List (Nat × Value)) (cs ds : List Value), fillZ place cs parts = some ds → Instr.fill place cs.toArray parts = some ds.toArray := by
  intro parts
  induction parts with
  | nil => intro cs ds h; simp only [fillZ, Option.some.injEq] at h; subst h; rfl
  | cons p rest ih =>
    intro cs ds h
    obtain ⟨i, v⟩ := p
    simp only [fillZ] at h
    simp only [Instr.fill]
    cases hp : place i with
    | none => rw [hp] at h; cases h
    | some q =>
      obtain ⟨off, size⟩ := q
      rw [hp] at h
      simp only at h ⊢
      split at h
      · rename_i hk
        have hc : ¬ (v.cells.size ≠ size || off + v.cells.size > cs.toArray.size) = true := by simp; omega
        rw [if_neg hc, ← ih _ _ h]
        congr 1
        have hlen : v.cells.toList.length = v.cells.size := by simp
        have := foldl_set_pt v.cells.toList cs off 0 (by omega)
        simp only [Nat.add_zero] at this
        rw [← this, ← Array.foldl_toList]
        simp [Array.toList_zipIdx]
      · cases h

def TB (P : Program) (t : TypeId) (zs : List Value) (pl : List (Nat × Nat)) : Prop :=
  ∃ fields i z, P.underlying t = some (.struct fields) ∧ P.info? t = some i ∧ i.zero = some z ∧ z.cells.toList = zs ∧ fields.toList.map (·.offset) = pl.map (·.1) ∧ ∀ (j : Nat) (f : Field), fields.toList[j]? = some f → (P.info? f.type).map (·.size) = (pl[j]?).map (·.2)

theorem run_places {fs : List Field} {pl : List (Nat × Nat)} (h1 : fs.map (·.offset) = pl.map (·.1)) (h2 : ∀ (j : Nat) (f : Field), fs[j]? = some f → (P.info? f.type).map (·.size) = (pl[j]?).map (·.2)) (w : World) :
    (fs.mapM fun f => Functor.map (Prod.mk f.offset) (sizeOf f.type) : Sem (List (Nat × Nat))).run P w = .ok pl w := by
  induction fs generalizing pl with
  | nil =>
    cases pl with
    | nil => simp
    | cons a t => simp at h1
  | cons f fs ih =>
    cases pl with
    | nil => simp at h1
    | cons a t =>
      simp only [List.map_cons, List.cons.injEq] at h1
      have hs := h2 0 f rfl
      simp only [List.getElem?_cons_zero, Option.map_some] at hs
      have := ih h1.2 (fun j f hf => h2 (j + 1) f hf)
      simp [List.mapM_cons, Sem.run_bind, run_sizeOf' hs w, this, h1.1]

theorem Y_build {S : World → Prop} {t : TypeId} {zs ds : List Value} {pl : List (Nat × Nat)} {parts : List (Nat × Operand)} (vs : List (Nat × Value)) (ht : TB P t zs pl) (hp : parts.map (fun p => (p.1, evT T p.2)) = vs) (hd : fillZ (pl[·]?) zs vs = some ds) :
    YV P S T ⟨dst, .build t parts.toArray, ty, pos, af, g⟩ (.agg ds.toArray) := by
  intro w _
  obtain ⟨fields, i, z, h1, h2, h3, h4, h5, h6⟩ := ht
  have hz : z.cells = zs.toArray := by rw [← h4]
  have hpl := run_places (P := P) h5 h6 w
  have hm : (fields.mapM fun f => Functor.map (Prod.mk f.offset) (sizeOf f.type) : Sem (Array (Nat × Nat))).run P w = .ok pl.toArray w := by
    rw [Array.mapM_eq_mapM_toList]
    rw [Sem.run_map, hpl]
    rfl
  have hf := fill_of_fillZ (place := fun i => pl[i]?) vs zs ds hd
  have hv : (parts.toArray.map fun (p : Nat × Operand) => (p.1, evT T p.2)).toList = vs := by rw [← hp]; simp
  simp only [execOp, Instr.build]
  simp only [Sem.run_bind, zeroValue, typeInfo]
  simp [Sem.run_bind, run_underlying h1 w, hm, hz, hp, hf, h2, h3]


/-! Slices of given elements. -/
theorem pt_cat (a b : List Value) (ws : List Value) (h : ws.length ≤ b.length) : pt (a ++ b) a.length ws = a ++ ws ++ b.drop ws.length := by
  unfold pt
  simp [List.drop_append]

theorem fillZ_row (k : Nat) : ∀ (vs : List Value) (i : Nat) (done rest : List Value), done.length = i * k → rest.length = vs.length * k → (∀ v ∈ vs, v.cells.size = k) →
    fillZ (fun i => some (i * k, k)) (done ++ rest) (vs.zipIdx i |>.map fun p => (p.2, p.1)) = some (done ++ vs.flatMap (fun v => v.cells.toList)) := by
  intro vs
  induction vs with
  | nil => intro i done rest h1 h2 h3; simp at h2; subst h2; simp [fillZ]
  | cons v vs ih =>
    intro i done rest h1 h2 h3
    have hv := h3 v List.mem_cons_self
    simp only [List.length_cons, Nat.add_mul, Nat.one_mul] at h2
    simp only [List.zipIdx_cons, List.map_cons, fillZ]
    rw [if_pos ⟨hv, by simp; omega⟩]
    have hp := pt_cat done rest v.cells.toList (by simp; omega)
    rw [h1] at hp
    rw [hp]
    have := ih (i + 1) (done ++ v.cells.toList) (rest.drop k) (by simp [h1, hv, Nat.add_mul]) (by simp; omega) (fun u hu => h3 u (List.mem_cons_of_mem _ hu))
    simp only [Array.length_toList, hv]
    rw [this]
    simp

theorem repL_of_row {α : Type} [Rep α] {M : Mm} {b : Nat} {vs : List (List Value)} {l : List α} {cap : Nat} (hb : M b = some vs.flatten) (hl : vs.length = l.length) (hc : l.length ≤ cap) (hby : l.length * Rep.bytes α ≤ 140737488351232) (h : ∀ (i : Nat) ws x, vs[i]? = some ws → l[i]? = some x → rep M ws x) :
    repL M (.slice (some ⟨b, 0, none⟩) l.length cap) l := by
  refine ⟨some ⟨b, 0, none⟩, cap, rfl, hc, fun h => (by cases h), hby, fun i x hx => ?_⟩
  have hi : i < vs.length := by rw [hl]; exact (List.getElem?_eq_some_iff.1 hx).1
  have hlens : ∀ ws ∈ vs, ws.length = Rep.k α := by
    intro ws hws
    obtain ⟨j, hj⟩ := List.getElem?_of_mem hws
    have hjl : j < l.length := by rw [← hl]; exact (List.getElem?_eq_some_iff.1 hj).1
    exact Rep.len (h j ws l[j] hj (by simp))
  have hfl : ∀ (us : List (List Value)), (∀ ws ∈ us, ws.length = Rep.k α) → us.flatten.length = us.length * Rep.k α := by
    intro us
    induction us with
    | nil => simp
    | cons u us ih => intro hu; simp only [List.flatten_cons, List.length_append, List.length_cons, Nat.add_mul, Nat.one_mul]; rw [ih (fun w hw => hu w (List.mem_cons_of_mem _ hw)), hu u List.mem_cons_self, Nat.add_comm]
  have hsl : ∀ (us : List (List Value)) (i : Nat) (hi : i < us.length), (∀ ws ∈ us, ws.length = Rep.k α) → sl us.flatten (i * Rep.k α) (Rep.k α) = us[i] := by
    intro us
    induction us with
    | nil => intro i hi; simp at hi
    | cons u us ih =>
      intro i hi hu
      have hul := hu u List.mem_cons_self
      cases i with
      | zero =>
        simp only [Nat.zero_mul, List.flatten_cons, List.getElem_cons_zero, sl, List.drop_zero]
        rw [← hul]; simp
      | succ i =>
        simp only [List.flatten_cons, List.getElem_cons_succ, sl]
        rw [← ih i (by simpa using hi) (fun w hw => hu w (List.mem_cons_of_mem _ hw)), sl]
        rw [Nat.add_mul, Nat.one_mul, ← hul, Nat.add_comm, List.drop_length_add_append]
  refine ⟨b, 0, vs.flatten, rfl, hb, ?_, ?_⟩
  · rw [hfl vs hlens]
    have := Nat.mul_le_mul_right (Rep.k α) (show i + 1 ≤ vs.length from hi)
    rw [Nat.add_mul, Nat.one_mul] at this
    omega
  · rw [Nat.zero_add, hsl vs i hi hlens]
    exact h i _ x (by simp) hx

def TL (P : Program) (t : TypeId) (k : Nat) : Prop := ∃ e i z, P.underlying t = some (.slice e) ∧ P.info? e = some i ∧ i.zero = some z ∧ z.cells.size = k ∧ i.size = k ∧ 0 < k

theorem run_buildSlice_e {t e : TypeId} {i : TypeInfo} {z : Value} {k m : Nat} {vs : List Value} (h2 : P.underlying t = some (.slice e)) (h3 : P.info? e = some i) (h4 : i.zero = some z) (h5 : z.cells.size = k) (h6 : i.size = k) (h7 : 0 < k) (hm : vs.length = m) (h1 : ∀ v ∈ vs, v.cells.size = k) (hs : m * k ≤ 1000) (hm0 : 0 < m) (w : World) :
    (Instr.buildSlice t m ((vs.zipIdx.map fun p => (p.2, p.1)).toArray)).run P w = .ok (.slice (some ⟨w.heap.size, 0, none⟩) m m) (w.alloc (.cells (vs.flatMap (fun v => v.cells.toList)).toArray e)) := by
  have hmk : m * k ≠ 0 := Nat.mul_ne_zero (by omega) (by omega)
  have hlt : ¬ (m * k > 16777216) := by omega
  have hf := fill_of_fillZ (vs.zipIdx.map fun p => (p.2, p.1)) ((List.range (m * k)).map (fun j => z.cells[j % z.cells.size]!)) _ (by
    have := fillZ_row k vs 0 [] ((List.range (m * k)).map (fun j => z.cells[j % z.cells.size]!)) (by simp) (by simp [hm]) h1
    simpa using this)
  have ha : ((Array.range (m * k)).map fun j => z.cells[j % z.cells.size]!) = ((List.range (m * k)).map (fun j => z.cells[j % z.cells.size]!)).toArray := by
    apply Array.ext'
    simp
  simp only [Instr.buildSlice, Sem.run_bind, run_underlying h2 w, Result.andThen, run_sizeOf' (P := P) (t := e) (n := k) (by rw [h3]; simp [h6]) w]
  rw [if_neg (by simpa using hlt)]
  simp only [if_neg hmk, Sem.run_bind, zeroValue, typeInfo, h3, h4, Sem.run_pure, Result.andThen, program, Sem.run]
  simp only [pure]
  rw [ha, hf]
  simp only [Sem.run_bind, newRow, newObj]
  rfl

theorem run_buildSlice {t : TypeId} {k m : Nat} {vs : List Value} (ht : TL P t k) (hm : vs.length = m) (h1 : ∀ v ∈ vs, v.cells.size = k) (hs : m * k ≤ 1000) (hm0 : 0 < m) (w : World) : ∃ e,
    (Instr.buildSlice t m ((vs.zipIdx.map fun p => (p.2, p.1)).toArray)).run P w = .ok (.slice (some ⟨w.heap.size, 0, none⟩) m m) (w.alloc (.cells (vs.flatMap (fun v => v.cells.toList)).toArray e)) := by
  obtain ⟨e, i, z, h2, h3, h4, h5, h6, h7⟩ := ht
  exact ⟨e, run_buildSlice_e h2 h3 h4 h5 h6 h7 hm h1 hs hm0 w⟩

theorem O_bslice {α : Type} [Rep α] {t : TypeId} {m : Nat} {parts : List (Nat × Operand)} {l : List α} (vs : List Value) (ht : TL P t (Rep.k α)) (hp : parts.map (fun p => (p.1, evT T p.2)) = vs.zipIdx.map (fun p => (p.2, p.1))) (hm : vs.length = m) (hl : l.length = m) (hm0 : 0 < m) (hs : m * Rep.k α ≤ 1000) (hby : m * Rep.bytes α ≤ 140737488351232)
    (hSt : St w0 X M H w) (hr : ∀ (i : Nat) v x, vs[i]? = some v → l[i]? = some x → rep M v.cells.toList x) (k : ∀ v M' w', Mm.ext w0.heap.size X M M' → repL M' v l → St w0 X M' H w' → K (updO T dst v) w') : OW P n Q ⟨dst, .buildSlice t m parts.toArray, ty, pos, af, g⟩ T w K := by
  have hcells : ∀ v ∈ vs, v.cells.size = Rep.k α := by
    intro v hv
    obtain ⟨j, hj⟩ := List.getElem?_of_mem hv
    have hjl : j < l.length := by rw [hl, ← hm]; exact (List.getElem?_eq_some_iff.1 hj).1
    have := Rep.len (hr j v l[j] hj (by simp))
    simpa using this
  obtain ⟨e, hrun⟩ := run_buildSlice (P := P) ht hm hcells hs hm0 w
  have hfl : (vs.flatMap fun v => v.cells.toList) = (vs.map fun v => v.cells.toList).flatten := by rw [List.flatMap_def]
  have hle := Mm.put_le (M := M) (b := w.heap.size) (vs.flatMap fun v => v.cells.toList) (hSt.none_at (Nat.le_refl _))
  refine OW.of_run (v := .slice (some ⟨w.heap.size, 0, none⟩) m m) (w' := w.alloc (.cells (vs.flatMap (fun v => v.cells.toList)).toArray e)) ?_ (k _ _ _ (hSt.extM _) ?_ (hSt.allocM _ e))
  · have hpa : (parts.toArray.map fun (p : Nat × Operand) => (p.1, evT T p.2)) = (vs.zipIdx.map fun p => (p.2, p.1)).toArray := by rw [← hp]; simp
    simp only [execOp, Sem.run_bind]
    rw [show (Array.map (fun x => match x with | (i, x) => (i, evT T x)) parts.toArray) = (vs.zipIdx.map fun p => (p.2, p.1)).toArray from hpa, hrun]
    rfl
  · subst hl
    refine repL_of_row (vs := vs.map fun v => v.cells.toList) (by rw [Mm.put_same, hfl]) (by simp [hm]) (Nat.le_refl _) hby ?_
    intro i ws x hws hx
    rw [List.getElem?_map] at hws
    cases hv : vs[i]? with
    | none => rw [hv] at hws; cases hws
    | some v =>
      rw [hv] at hws
      simp only [Option.map_some, Option.some.injEq] at hws
      subst hws
      exact Rep.mono hle (hr i v x hv hx)

/-! Calls and ends. -/
theorem O_call {f : FuncId} {fn : Func} {c : Code} {args : List Operand} {ats : Array TypeId} {vs : List Value} {R : Ending → World → Prop} (hf : P.funcs[f]? = some fn) (hname : (fn.name == "runtime.NumGoroutine") = false) (hb : fn.body = some c)
    (ha : args.map (evT T) = vs) (hc : Calls P f vs.toArray w R) (hk : ∀ e w', R e w' → ∃ v, e = .returned v ∧ K (updO T dst v) w') : OW P n Q ⟨dst, .call ⟨.value (.func f), args.toArray, ats⟩, ty, pos, af, g⟩ T w K := by
  intro hok a hfr
  unfold Oper.wp
  have hr : (execOp a.eval ⟨dst, .call ⟨.value (.func f), args.toArray, ats⟩, ty, pos, af, g⟩).run P w = .ok (.enter f vs.toArray) w := by
    rw [hfr.eval]
    have h1 : (args.toArray.map (evT T)) = vs.toArray := by rw [← ha]; simp
    have h2 := run_callFunc_enter' (P := P) hf hname hb vs.toArray w
    simp [execOp, resolve, evT, Deferred.ofValue, invoke, ha, h2]
  rw [hr]
  show Calls P f vs.toArray w _
  refine hc.mono ?_
  intro e w' he
  obtain ⟨v, rfl, hK⟩ := hk e w' he
  exact ⟨_, hfr.put dst v (operOk.lt hok), hK⟩
theorem args0 : ([] : List Operand).map (evT T) = [] := rfl
theorem args1 {x : Operand} {v : Value} (h : evT T x = v) : [x].map (evT T) = [v] := by simp [h]
theorem args2 {x y : Operand} {v u : Value} (h : evT T x = v) (h' : evT T y = u) : [x, y].map (evT T) = [v, u] := by simp [h, h']
theorem args3 {x y z : Operand} {v u t : Value} (h : evT T x = v) (h' : evT T y = u) (h'' : evT T z = t) : [x, y, z].map (evT T) = [v, u, t] := by simp [h, h', h'']
theorem args4 {x y z a : Operand} {v u t s : Value} (h : evT T x = v) (h' : evT T y = u) (h'' : evT T z = t) (h4 : evT T a = s) : [x, y, z, a].map (evT T) = [v, u, t, s] := by simp [h, h', h'', h4]

end
end Go.Proofs.Ytopgdemmdcipcaa
