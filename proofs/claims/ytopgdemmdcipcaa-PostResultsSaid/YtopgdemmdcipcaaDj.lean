/- Pieces of structs and arrays within rows of cells; zero values. Nothing of the program is named here. -/
import Derived.Test.YtopgdemmdcipcaaDh
import Derived.Deep.QuietTactic
namespace Go.Proofs.Ytopgdemmdcipcaa
set_option linter.unusedVariables false
open Go.RowKit
open Rep (rep)

theorem mem_cut {cs : List Value} {u : Value} {o o' n m k : Nat} (hk : n + m = k) (ho : o + n = o') (h : u ∈ sl cs o k) : u ∈ sl cs o n ∨ u ∈ sl cs o' m := by
  subst hk
  subst ho
  rw [← sl_cat] at h
  exact List.mem_append.1 h
theorem mem_all {cs : List Value} {u : Value} {k : Nat} (hl : cs.length = k) (h : u ∈ cs) : u ∈ sl cs 0 k := by subst hl; rwa [sl_all]

section
variable {α : Type} [Rep α] {M : Mm} {cs ws : List Value}
theorem rep_root {d : α} {k : Nat} (hk : Rep.k α = k) (h : rep M cs d) : rep M (sl cs 0 k) d := by
  have := Rep.len h
  rw [hk] at this
  rw [← this, sl_all]
  exact h
theorem rep_whole {d : α} {k : Nat} (hk : cs.length = k) (h : rep M (sl cs 0 k) d) : rep M cs d := by
  rw [← hk, sl_all] at h
  exact h
theorem rep_leaf {x : α} {q k : Nat} (hk : Rep.k α = k) (hx : rep M ws x) (hl : q + k ≤ cs.length) : rep M (sl (pt cs q ws) q k) x := by
  have := Rep.len hx
  rw [hk] at this
  rw [sl_pt_same (by omega) this]
  exact hx
theorem rep_eq {x y : α} (h : rep M cs x) (e : some x = some y) : rep M cs y := by cases e; exact h

/-- An element of an array that lies in a row. -/
theorem vp {n k N o : Nat} {v : Vector α n} {j : Int} {x : α} (hk : Rep.k α = k) (hN : n * k = N) (h : rep M (sl cs o N) v) (hj : idxV v j = some x) : rep M (sl cs (o + j.toNat * k) k) x := by
  subst hk
  subst hN
  obtain ⟨h0, h1, h2⟩ := repV_at h hj
  have hle := Nat.mul_le_mul_right (Rep.k α) (show j.toNat + 1 ≤ n by omega)
  rw [Nat.add_mul, Nat.one_mul] at hle
  rwa [sl_sl _ hle] at h2
theorem vs {n k N o q : Nat} {v v' : Vector α n} {j : Int} {x : α} (hk : Rep.k α = k) (hN : n * k = N) (h : rep M (sl cs o N) v) (hx : rep M (sl (pt cs q ws) (o + j.toNat * k) k) x) (hj : setV v j x = some v')
    (h1 : o + j.toNat * k ≤ q) (h2 : q + ws.length ≤ o + j.toNat * k + k) (hl : o + N ≤ cs.length) : rep M (sl (pt cs q ws) o N) v' := by
  subst hk
  subst hN
  obtain ⟨h0, h3, rfl⟩ := setV_some hj
  obtain ⟨e1, e2, e3⟩ := h
  have hle := Nat.mul_le_mul_right (Rep.k α) (show j.toNat + 1 ≤ n by omega)
  rw [Nat.add_mul, Nat.one_mul] at hle
  refine ⟨sl_length (by rw [pt_length (by omega)]; exact hl), e2, fun i hi => ?_⟩
  have hi2 := Nat.mul_le_mul_right (Rep.k α) (show i + 1 ≤ n by omega)
  rw [Nat.add_mul, Nat.one_mul] at hi2
  rw [Vector.getElem_setIfInBounds, sl_sl _ hi2]
  by_cases e : j.toNat = i
  · subst e
    rw [if_pos rfl]
    exact hx
  · have e4 := e3 i hi
    rw [sl_sl _ hi2] at e4
    rw [if_neg e, sl_pt_apart (by omega)]
    · exact e4
    · rcases Nat.lt_or_gt_of_ne e with hlt | hlt
      · right
        have := Nat.mul_le_mul_right (Rep.k α) (show j.toNat + 1 ≤ i by omega)
        rw [Nat.add_mul, Nat.one_mul] at this
        omega
      · left
        have := Nat.mul_le_mul_right (Rep.k α) (show i + 1 ≤ j.toNat by omega)
        rw [Nat.add_mul, Nat.one_mul] at this
        omega
theorem slp {cs' : List Value} {o n : Nat} {P : List Value → Prop} (h : P (sl (sl cs o cs'.length) 0 n)) (hn : n ≤ cs'.length) : P (sl cs o n) := by
  rw [sl_sl _ (by omega)] at h
  exact h

theorem fz_nil {place : Nat → Option (Nat × Nat)} : fillZ place cs [] = some cs := rfl
theorem fz_cons {place : Nat → Option (Nat × Nat)} {d : α} {i off size : Nat} {v : Value} {rest : List (Nat × Value)} {ds : List Value} (h : rep M cs d) (hp : place i = some (off, size)) (hc : v.cells.toList = ws) (hl : ws.length = size) (hle : off + size ≤ Rep.k α)
    (hr : fillZ place (pt cs off ws) rest = some ds) : fillZ place cs ((i, v) :: rest) = some ds := by
  simp only [fillZ, hp]
  have hsz : v.cells.size = size := by rw [← hl, ← hc]; simp
  rw [if_pos ⟨hsz, by rw [Rep.len h]; exact hle⟩, hc]
  exact hr
end

theorem repL_cells {α : Type} [Rep α] {M : Mm} {v : Value} {l : List α} (h : repL M v l) : v.cells.toList = [v] := by
  obtain ⟨a, cap, rfl, _⟩ := h
  rfl
theorem repL_rep {α : Type} [Rep α] {M : Mm} {v : Value} {l : List α} (h : repL M v l) : rep M [v] l := ⟨v, rfl, h⟩

/-- Zero values. -/
class Zr (α : Type) [Rep α] where
  zd : α
  zc : List Value
  zr : ∀ {M}, rep M zc zd

instance : Zr Int := ⟨0, [.int .i64 0], rfl⟩
instance : Zr Bool := ⟨false, [.bool false], rfl⟩
instance : Zr ByteArray := ⟨⟨#[]⟩, [.string ⟨#[]⟩], rfl, by decide⟩
instance {α : Type} [Rep α] : Zr (List α) := ⟨[], [.slice none 0 0], _, rfl, repL_nil _⟩

theorem flatten_replicate_sl {zs : List Value} {k : Nat} (hk : zs.length = k) : ∀ (n i : Nat), i < n → sl (List.replicate n zs).flatten (i * k) k = zs := by
  intro n
  induction n with
  | zero => intro i h; omega
  | succ n ih =>
    intro i hi
    simp only [List.replicate_succ, List.flatten_cons]
    cases i with
    | zero => subst hk; simp [sl]
    | succ i =>
      have h2 := ih i (by omega)
      unfold sl at h2 ⊢
      rw [Nat.add_mul, Nat.one_mul, Nat.add_comm, ← List.drop_drop, ← hk, List.drop_left, hk]
      exact h2

theorem length_flatten_replicate {zs : List Value} : ∀ n, (List.replicate n zs).flatten.length = n * zs.length
  | 0 => by simp
  | n + 1 => by
    rw [List.replicate_succ, List.flatten_cons, List.length_append, length_flatten_replicate n, Nat.add_mul, Nat.one_mul, Nat.add_comm]

class Pos (α : Type) [Rep α] : Prop where
  pos : 0 < Rep.k α
instance : Pos Int := ⟨Nat.one_pos⟩
instance : Pos Bool := ⟨Nat.one_pos⟩
instance : Pos ByteArray := ⟨Nat.one_pos⟩
instance {α : Type} [Rep α] : Pos (List α) := ⟨Nat.one_pos⟩

instance {α : Type} [Rep α] [Zr α] [Pos α] {n : Nat} : Zr (Vector α n) where
  zd := Vector.replicate n Zr.zd
  zc := (List.replicate n (Zr.zc α)).flatten
  zr := by
    intro M
    have hz := Rep.len (Zr.zr (α := α) (M := M))
    refine ⟨?_, .inl Pos.pos, fun i hi => ?_⟩
    · rw [length_flatten_replicate, hz]
    · rw [flatten_replicate_sl hz n i hi, Vector.getElem_replicate]
      exact Zr.zr

/-! Facts of types, out of closed equations. -/
theorem tz_of {P : Program} {t : TypeId} {zs : List Value} (h : ((P.info? t).bind (·.zero)).map (·.cells.toList) = some zs) : TZ P t zs := by
  cases hi : P.info? t with
  | none => rw [hi] at h; cases h
  | some i =>
    rw [hi] at h
    cases hz : i.zero with
    | none => simp [hz] at h
    | some z => simp [hz] at h; exact ⟨i, z, hi, hz, h⟩
theorem tp_of {P : Program} {t e : TypeId} {k b : Nat} (hu : P.underlying t = some (.slice e)) (h : (P.info? e).map (fun i => (i.zero.map (·.cells.size), i.size, i.bytes)) = some (some k, k, b)) (hk : 0 < k) (hb : 0 < b) : TP P t e k b := by
  cases hi : P.info? e with
  | none => rw [hi] at h; cases h
  | some i =>
    rw [hi] at h
    simp only [Option.map_some, Option.some.injEq, Prod.mk.injEq] at h
    obtain ⟨h1, h2, h3⟩ := h
    cases hz : i.zero with
    | none => simp [hz] at h1
    | some z => simp [hz] at h1; exact ⟨hu, i, z, hi, hz, h2, h3, h1, hk, hb⟩
theorem tl_of {P : Program} {t e : TypeId} {k b : Nat} (h : TP P t e k b) : TL P t k := by
  obtain ⟨hu, i, z, hi, hz, h2, h3, h1, hk, hb⟩ := h
  exact ⟨e, i, z, hu, hi, hz, h1, h2, hk⟩
def sizesOf (P : Program) (l : List Field) : List (Nat × Option Nat) := l.map fun f => (f.offset, (P.info? f.type).map (·.size))
theorem tb_of {P : Program} {t : TypeId} {zs : List Value} {fs : Array Field} {pl : List (Nat × Nat)} (hu : P.underlying t = some (.struct fs)) (hz : TZ P t zs) (h : sizesOf P fs.toList = pl.map (fun p => (p.1, some p.2))) : TB P t zs pl := by
  obtain ⟨i, z, h1, h2, h3⟩ := hz
  refine ⟨fs, i, z, hu, h1, h2, h3, ?_, ?_⟩
  · have := congrArg (List.map Prod.fst) h
    simpa [sizesOf, List.map_map, Function.comp_def] using this
  · intro j f hj
    have := congrArg (fun l : List (Nat × Option Nat) => l[j]?) h
    simp only [sizesOf, List.getElem?_map, hj, Option.map_some] at this
    cases hp : pl[j]? with
    | none => rw [hp] at this; cases this
    | some p =>
      rw [hp] at this
      simp only [Option.map_some, Option.some.injEq, Prod.mk.injEq] at this
      rw [this.2]
      rfl

/-! Words for texts that a program writes. -/
section
variable {P : Program} {n : Nat} {Q : Exit → Tm → World → Prop} {T : Tm} {w w0 : World} {X : Nat → Prop} {M : Mm} {H : List Ent} {ops : Array Oper}

theorem nm_then {next : Tm → World → Prop} (h : next T w) : thenQ next Q .normal T w := h
theorem nm_blk {id : Nat} (h : Q .normal T w) : blkQ id Q .normal T w := h
theorem ex_then {next : Tm → World → Prop} {id : Nat} (h : Q (.exit id) T w) : thenQ next Q (.exit id) T w := h
theorem ex_blk {id id' : Nat} (hn : Nat.beq id' id = false) (h : Q (.exit id') T w) : blkQ id Q (.exit id') T w := by show (bif Nat.beq id' id then _ else _); rw [hn]; exact h
theorem ex_hit {id : Nat} (h : Q .normal T w) : blkQ id Q (.exit id) T w := by show (bif Nat.beq id id then _ else _); rw [Nat.beq_refl]; exact h
theorem rt_then {next : Tm → World → Prop} (h : Q .ret T w) : thenQ next Q .ret T w := h
theorem rt_blk {id : Nat} (h : Q .ret T w) : blkQ id Q .ret T w := h

theorem W_seqJ {x y : Code} (J : Tm → World → Prop) (h : W P n x (thenQ J Q) T w) (hJ : ∀ T w, J T w → W P n y Q T w) : W P n (.seq x y) Q T w :=
  W_seq (W_mono (fun e T w hq => by cases e <;> first | exact hJ _ _ hq | exact hq) h)

theorem St.dropB {b : Nat} {cs : List Value} {t : TypeId} (h : St w0 X M (.box b cs t :: H) w) (_ : w0.heap.size ≤ b) : St w0 X M H w := h.drop
theorem St.dropR {v : Value} {e : TypeId} {k : Nat} (h : St w0 X M (.row v e k :: H) w) : St w0 X M H w := h.drop

theorem evs {x : Operand} {i : Int} (h : evT T x = .int .i64 i) : evI T (some x) (some i) := h
theorem evn : evI T none none := trivial
def nonneg (b : Int) : Option Unit := if 0 ≤ b then some () else none
theorem nonneg_some {b : Int} {u : Unit} (h : nonneg b = some u) : 0 ≤ b := by
  unfold nonneg at h
  split at h
  · assumption
  · cases h
def chkS (s : ByteArray) : Option Unit := if s.size ≤ 140737488351232 then some () else none
theorem chkS_some {s : ByteArray} {u : Unit} (h : chkS s = some u) : s.size ≤ 140737488351232 := by
  unfold chkS at h
  split at h
  · assumption
  · cases h
theorem rep_str {s : ByteArray} (h : s.size ≤ 140737488351232) : rep M [Value.string s] s := ⟨rfl, h⟩
theorem Y_eqNil {x y : Operand} {t u : TypeId} {e : TypeId} {a : Addr} {S : World → Prop} {dst : Option Tmp} {ty : TypeId} {pos : String} {af : Array Edge} {g : Option (Nat × Bool)} (hx : evT T x = .pointer (some a)) (hy : evT T y = .pointer none) (ht : P.underlying t = some (.pointer e)) : YV P S T ⟨dst, .binOp .eql t x y u, ty, pos, af, g⟩ (.bool false) := by
  intro w _
  have h1 : (Op.equal t (.pointer (some a)) (.pointer none)).run P w = .ok false w := by
    have : Op.equal t (.pointer (some a)) (.pointer none) = Op.equalIn (9999 + 1) t (.pointer (some a)) (.pointer none) := rfl
    rw [this]
    unfold Op.equalIn
    simp [Sem.run_bind, run_underlying ht w]
  have h2 : (eqGuard .eql t x y (.pointer (some a)) (.pointer none)).run P w = .ok () w := by
    unfold eqGuard
    simp
  simp [execOp, hx, hy, binOp, Sem.run_bind, h1, h2]

def inR (j n : Int) : Option Unit := if 0 ≤ j ∧ j < n then some () else none
theorem inR_some {j n : Int} {u : Unit} (h : inR j n = some u) : 0 ≤ j ∧ j < n := by
  unfold inR at h
  split at h
  · assumption
  · cases h

theorem bt {c : Bool} {x : Value} (h : c = true) (g : x = Value.bool c) : x = .bool true := by subst h; exact g
theorem bf {c : Bool} {x : Value} (h : c = false) (g : x = Value.bool c) : x = .bool false := by subst h; exact g
theorem tr2 {x v u : Value} (h' : v = u) (h : x = v) : x = u := h.trans h'

theorem bp0 : ([] : List (Nat × Operand)).map (fun p => (p.1, evT T p.2)) = [] := rfl
theorem bpc {i : Nat} {x : Operand} {v : Value} {ps : List (Nat × Operand)} {vs : List (Nat × Value)} (h : evT T x = v) (hr : ps.map (fun p => (p.1, evT T p.2)) = vs) : ((i, x) :: ps).map (fun p => (p.1, evT T p.2)) = (i, v) :: vs := by
  rw [List.map_cons, h, hr]
theorem br0 {α : Type} [Rep α] : ∀ (i : Nat) v (x : α), ([] : List Value)[i]? = some v → ([] : List α)[i]? = some x → rep M v.cells.toList x := fun i v x h => by simp at h
theorem brc {α : Type} [Rep α] {v0 : Value} {x0 : α} {vs : List Value} {l : List α} (h : rep M v0.cells.toList x0) (hr : ∀ (i : Nat) v (x : α), vs[i]? = some v → l[i]? = some x → rep M v.cells.toList x) :
    ∀ (i : Nat) v (x : α), (v0 :: vs)[i]? = some v → (x0 :: l)[i]? = some x → rep M v.cells.toList x
  | 0, v, x, hv, hx => by cases hv; cases hx; exact h
  | i + 1, v, x, hv, hx => hr i v x hv hx

def CB (P : Program) (f : FuncId) : Prop := ∃ fn c, P.funcs[f]? = some fn ∧ (fn.name == "runtime.NumGoroutine") = false ∧ fn.body = some c
/-- What a call leaves that gives back no memory. -/
def GivesV (w : World) (v : Value) : Ending → World → Prop := fun e w' => e = .returned v ∧ Kept w w'
theorem O_val {K : Tm → World → Prop} {dst : Option Tmp} {ty : TypeId} {pos : String} {af : Array Edge} {g : Option (Nat × Bool)} {f : FuncId} {args : List Operand} {ats : Array TypeId} {vs : List Value} {v : Value} (hcb : CB P f)
    (ha : args.map (evT T) = vs) (hSt : St w0 X M H w) (hc : Calls P f vs.toArray w (GivesV w v)) (hk : ∀ w', St w0 X M H w' → K (updO T dst v) w') : OW P n Q ⟨dst, .call ⟨.value (.func f), args.toArray, ats⟩, ty, pos, af, g⟩ T w K := by
  obtain ⟨fn, c, hf, hname, hb⟩ := hcb
  exact O_call hf hname hb ha hc fun e w' ⟨he, hK⟩ => ⟨v, he, hk w' (hSt.call0 hK)⟩
theorem O_mem {K : Tm → World → Prop} {dst : Option Tmp} {ty : TypeId} {pos : String} {af : Array Edge} {g : Option (Nat × Bool)} {f : FuncId} {args : List Operand} {ats : Array TypeId} {vs : List Value} {rv : Mm → Value → Prop} (hcb : CB P f)
    (ha : args.map (evT T) = vs) (hSt : St w0 X M H w) (hc : Calls P f vs.toArray w (Gives M w rv)) (hk : ∀ v M' w', Mm.ext w0.heap.size X M M' → rv M' v → St w0 X M' H w' → K (updO T dst v) w') : OW P n Q ⟨dst, .call ⟨.value (.func f), args.toArray, ats⟩, ty, pos, af, g⟩ T w K := by
  obtain ⟨fn, c, hf, hname, hb⟩ := hcb
  exact O_gives hf hname hb ha hSt hc hk

/-- A slice of given elements, to be appended to. -/
theorem O_bsliceR {K : Tm → World → Prop} {dst : Option Tmp} {ty : TypeId} {pos : String} {af : Array Edge} {g : Option (Nat × Bool)} {α : Type} [Rep α] {t e m b : Nat} {parts : List (Nat × Operand)} {l : List α} (vs : List Value) (htp : TP P t e (Rep.k α) b) (hp : parts.map (fun p => (p.1, evT T p.2)) = vs.zipIdx.map (fun p => (p.2, p.1))) (hm : vs.length = m) (hl : l.length = m) (hm0 : 0 < m) (hs : m * Rep.k α ≤ 1000) (hby : m * Rep.bytes α ≤ 140737488351232)
    (hSt : St w0 X M H w) (hr : ∀ (i : Nat) v x, vs[i]? = some v → l[i]? = some x → rep M v.cells.toList x) (k : ∀ v M' w', Mm.ext w0.heap.size X M M' → repL M' v l → St w0 X M' (.row v e (Rep.k α) :: H) w' → K (updO T dst v) w') : OW P n Q ⟨dst, .buildSlice t m parts.toArray, ty, pos, af, g⟩ T w K := by
  have hcells : ∀ v ∈ vs, v.cells.size = Rep.k α := by
    intro v hv
    obtain ⟨j, hj⟩ := List.getElem?_of_mem hv
    have hjl : j < l.length := by rw [hl, ← hm]; exact (List.getElem?_eq_some_iff.1 hj).1
    have := Rep.len (hr j v l[j] hj (by simp))
    simpa using this
  obtain ⟨e', hrun⟩ := run_buildSlice (P := P) (tl_of htp) hm hcells hs hm0 w
  have hfl : (vs.flatMap fun v => v.cells.toList) = (vs.map fun v => v.cells.toList).flatten := by rw [List.flatMap_def]
  have hle := Mm.put_le (M := M) (b := w.heap.size) (vs.flatMap fun v => v.cells.toList) (hSt.none_at (Nat.le_refl _))
  -- the type of the elements
  obtain ⟨hu, i, z, hi, hz, h2, h3, h1, hk, hb⟩ := htp
  have hrun2 := run_buildSlice_e (P := P) hu hi hz h1 h2 hk hm hcells hs hm0 w
  rw [hrun] at hrun2
  have hw : w.alloc (.cells (vs.flatMap (fun v => v.cells.toList)).toArray e') = w.alloc (.cells (vs.flatMap (fun v => v.cells.toList)).toArray e) := by
    injection hrun2
  rw [hw] at hrun
  have hlen : (vs.flatMap fun v => v.cells.toList).length = m * Rep.k α := by
    rw [← hm]
    clear hrun hrun2 hw hfl hle hr hp hm
    induction vs with
    | nil => simp
    | cons v t ih =>
      simp only [List.flatMap_cons, List.length_append, List.length_cons, Nat.add_mul, Nat.one_mul]
      rw [ih (fun u hu => hcells u (List.mem_cons_of_mem _ hu))]
      have := hcells v List.mem_cons_self
      simp only [Array.length_toList, this]
      omega
  have hnew : (w.alloc (.cells (vs.flatMap (fun v => v.cells.toList)).toArray e)).heap[w.heap.size]? = some (.cells (vs.flatMap (fun v => v.cells.toList)).toArray e (0, 0)) := by
    show (w.heap.push _)[w.heap.size]? = _
    simp
  have hS2 := hSt.allocM (vs.flatMap (fun v => v.cells.toList)) e
  refine OW.of_run (v := .slice (some ⟨w.heap.size, 0, none⟩) m m) (w' := w.alloc (.cells (vs.flatMap (fun v => v.cells.toList)).toArray e)) ?_ (k _ _ _ (hSt.extM _) ?_ ⟨hS2.os, hS2.tape, hS2.output, hS2.size, hS2.frame, hS2.agree, fun f hf => ?_, fun f hf c hc => ?_, .cons (fun f hf c hc hc' => ?_) hS2.apart⟩)
  · have hpa : (parts.toArray.map fun (p : Nat × Operand) => (p.1, evT T p.2)) = (vs.zipIdx.map fun p => (p.2, p.1)).toArray := by rw [← hp]; simp
    simp only [execOp, Sem.run_bind]
    rw [show (Array.map (fun x => match x with | (i, x) => (i, evT T x)) parts.toArray) = (vs.zipIdx.map fun p => (p.2, p.1)).toArray from hpa, hrun]
    rfl
  · subst hl
    refine repL_of_row (vs := vs.map fun v => v.cells.toList) (by rw [Mm.put_same, hfl]) (by simp [hm]) (Nat.le_refl _) hby ?_
    intro i ws x hws hx
    rw [List.getElem?_map] at hws
    cases hv : vs[i]? with
    | none => rw [hv] at hws; cases hws
    | some v =>
      rw [hv] at hws
      simp only [Option.map_some, Option.some.injEq] at hws
      subst hws
      exact Rep.mono hle (hr i v x hv hx)
  · rcases List.mem_cons.1 hf with rfl | hf
    · refine ⟨m, vs.flatMap (fun v => v.cells.toList), ⟨hlen, .inr ⟨w.heap.size, m, _, rfl, Nat.zero_le _, hnew, Nat.le_refl _, ?_, by simpa using hlen, ?_⟩⟩, fun g hg => by cases hg; exact Mm.put_same _ _ _⟩
      · have : m ≤ m * Rep.k α := Nat.le_mul_of_pos_right _ hk
        unfold maxLen; omega
      · rw [← hlen]; exact List.take_length
    · exact hS2.ents f hf
  · rcases List.mem_cons.1 hf with rfl | hf
    · cases hc; exact .inr hSt.size
    · exact hS2.mine f hf c hc
  · cases hc
    exact absurd (Ent.lt (hSt.ents f hf) hc') (Nat.lt_irrefl _)

/-! Entries that are lent to a call. -/
def lentX (L : List Ent) : Nat → Prop := fun b => ∃ e ∈ L, e.blk = some b
theorem St.lent {L : List Ent} (h : St w0 X M (L ++ H) w) : St w (lentX L) M L w :=
  ⟨rfl, rfl, rfl, Nat.le_refl _, fun _ _ _ => rfl, h.agree, fun e he => h.ents e (List.mem_append_left _ he), fun e he _ hb => .inl ⟨e, he, hb⟩, (List.pairwise_append.1 h.apart).1⟩
theorem St.lend {w' : World} {M' : Mm} {L L' : List Ent} (h : St w0 X M (L ++ H) w) (h2 : St w (lentX L) M' L' w') (he : Mm.ext w.heap.size (lentX L) M M') : St w0 X M' (L' ++ H) w' ∧ Mm.ext w0.heap.size X M M' := by
  have hmine : ∀ b, lentX L b → X b ∨ w0.heap.size ≤ b := fun b ⟨e, he, hb⟩ => h.mine e (List.mem_append_left _ he) b hb
  have hap := List.pairwise_append.1 h.apart
  have hH : ∀ f ∈ H, ∀ b, f.blk = some b → b < w.heap.size ∧ ¬ lentX L b := fun f hf b hb =>
    ⟨Ent.lt (h.ents f (List.mem_append_right _ hf)) hb, fun ⟨e, he, hb'⟩ => hap.2.2 e he f hf b hb' hb⟩
  refine ⟨⟨h2.os.trans h.os, h2.tape.trans h.tape, h2.output.trans h.output, Nat.le_trans h.size h2.size, fun k hk hx => ?_, h2.agree, fun f hf => ?_, fun f hf b hb => ?_, List.pairwise_append.2 ⟨h2.apart, hap.2.1, fun e he f hf b hb hb' => ?_⟩⟩, he.1, fun b hb hx => he.2 b (Nat.lt_of_lt_of_le hb h.size) fun hl => ?_⟩
  · rw [h2.frame k (Nat.lt_of_lt_of_le hk h.size) fun hl => ?_]
    · exact h.frame k hk hx
    · rcases hmine k hl with h1 | h1
      · exact hx h1
      · omega
  · rcases List.mem_append.1 hf with hf | hf
    · exact h2.ents f hf
    · exact Ent.kept (h.ents f (List.mem_append_right _ hf)) fun b hb => ⟨h2.frame b (hH f hf b hb).1 (hH f hf b hb).2, he.2 b (hH f hf b hb).1 (hH f hf b hb).2⟩
  · rcases List.mem_append.1 hf with hf | hf
    · rcases h2.mine f hf b hb with h1 | h1
      · exact hmine b h1
      · exact .inr (Nat.le_trans h.size h1)
    · exact h.mine f (List.mem_append_right _ hf) b hb
  · rcases h2.mine e he b hb with h1 | h1
    · exact (hH f hf b hb').2 h1
    · have := (hH f hf b hb').1
      omega
  · rcases hmine b hl with h1 | h1
    · exact hx h1
    · omega
/-- What a call leaves to which entries were lent. -/
def GivesL (M : Mm) (w : World) (L : List Ent) (rv : Mm → Value → List Ent → Prop) : Ending → World → Prop := fun e w' =>
  ∃ v M' L', e = .returned v ∧ Mm.ext w.heap.size (lentX L) M M' ∧ St w (lentX L) M' L' w' ∧ rv M' v L'
theorem O_lend1 {K : Tm → World → Prop} {dst : Option Tmp} {ty : TypeId} {pos : String} {af : Array Edge} {g : Option (Nat × Bool)} {f : FuncId} {args : List Operand} {ats : Array TypeId} {vs : List Value} {j : Nat} {e : Ent} {rv : Mm → Value → List Ent → Prop} (hcb : CB P f)
    (ha : args.map (evT T) = vs) (hSt : St w0 X M H w) (hj : H[j]? = some e) (hc : St w (lentX [e]) M [e] w → Calls P f vs.toArray w (GivesL M w [e] rv)) (hk : ∀ v M' w' L', Mm.ext w0.heap.size X M M' → rv M' v L' → (∀ e', L' = [e'] → St w0 X M' (H.set j e') w') → K (updO T dst v) w') : OW P n Q ⟨dst, .call ⟨.value (.func f), args.toArray, ats⟩, ty, pos, af, g⟩ T w K := by
  obtain ⟨fn, c, hf, hname, hb⟩ := hcb
  have hF : St w0 X M ([e] ++ H.eraseIdx j) w := hSt.perm (perm_front hj)
  exact O_call hf hname hb ha (hc hF.lent) fun en w' ⟨v, M', L', he, hx, hs, hr⟩ => by
    obtain ⟨h1, h2⟩ := hF.lend hs hx
    exact ⟨v, he, hk v M' w' L' h2 hr fun e' heq => by subst heq; exact h1.perm (perm_set e' hj)⟩

/-- A drawn region of which all operations leave the world as it is. -/
def WQ (P : Program) (n : Nat) (ops : Array Oper) (S : World → Prop) (K : Tm → Prop) (l : List Oper) (T : Tm) : Prop := l.all (operOk n) = true → ∀ a, Fr n T a → wpQuiet P ops S (fun a' => ∃ T', Fr n T' a' ∧ K T') l a
theorem W_drawq {id : Nat} {l : List Oper} (hm : P.follows .mixedOrders = true) (hB : Region.lexB .any l.toArray = true) (hSt : St w0 X M H w) (h : WQ P n l.toArray (St w0 X M H) (fun T' => ∀ w', St w0 X M H w' → Q .normal T' w') l T) : W P n (.region id l.toArray true) Q T w := by
  intro hok a ha
  refine wp_region_quiet (C := St w0 X M H) hm hB hSt.drew ?_
  have h1 := h (by simpa [codeOk] using hok) a ha
  have key : ∀ (l' : List Oper) (a : Act) {K K' : Act → Prop}, (∀ a, K a → K' a) → wpQuiet P l.toArray (St w0 X M H) K l' a → wpQuiet P l.toArray (St w0 X M H) K' l' a := by
    intro l'
    induction l' with
    | nil => intro a K K' hk h; exact hk a h
    | cons o r ih =>
      intro a K K' hk h
      unfold wpQuiet at h ⊢
      split
      · rename_i hw
        rw [if_pos hw] at h
        exact Oper.quiet_mono (fun a ha => ih a hk ha) h
      · rename_i hw
        rw [if_neg hw] at h
        exact ih _ hk h
  exact key l a (fun a' ⟨T', hf, hK⟩ w' hw' => ⟨T', hf, hK w' hw'⟩) h1
theorem WQ_nil {S : World → Prop} {K : Tm → Prop} (h : K T) : WQ P n ops S K [] T := fun _ _ ha => ⟨T, ha, h⟩
theorem WQ_y {S : World → Prop} {K : Tm → Prop} {rest : List Oper} {d : Nat} {op : Op} {ty : TypeId} {pos : String} {af : Array Edge} {v : Value} (h : YV P S T ⟨some d, op, ty, pos, af, none⟩ v) (k : WQ P n ops S K rest (upd T d v)) : WQ P n ops S K (⟨some d, op, ty, pos, af, none⟩ :: rest) T := by
  intro hok a ha
  simp only [List.all_cons, Bool.and_eq_true] at hok
  unfold wpQuiet
  rw [if_pos (show Region.wanted ⟨some d, op, ty, pos, af, none⟩ (yielded ops a.tmps) = true from rfl)]
  refine ⟨v, fun w' hw' => ?_, k hok.2 _ (ha.put (some d) v (operOk.lt hok.1))⟩
  unfold Oper.quietAt
  rw [ha.eval, h w' hw']
  exact ⟨rfl, rfl⟩
theorem bvBS {j : Nat} {b : Nat} {cs : List Value} {t : TypeId} (hj : H[j]? = some (.box b cs t)) : BV (St w0 X M H) b cs := fun w h => h.bvB j hj w rfl
theorem bvMS {b : Nat} {p : List Value} (hb : M b = some p) : BV (St w0 X M H) b p := fun w h => h.agree b p hb
end

theorem cb_any {P : Program} {f : FuncId} (h : (match P.funcs[f]? with | some fn => !(fn.name == "runtime.NumGoroutine") && fn.body.isSome | none => false) = true) : CB P f := by
  cases hf : P.funcs[f]? with
  | none => rw [hf] at h; cases h
  | some fn =>
    rw [hf] at h
    simp only [Bool.and_eq_true, Bool.not_eq_true'] at h
    obtain ⟨c, hc⟩ := Option.isSome_iff_exists.1 h.2
    exact ⟨fn, c, hf, h.1, hc⟩

instance {α : Type} [Rep α] [Pos α] {n : Nat} [NeZero n] : Pos (Vector α n) := ⟨Nat.mul_pos (Nat.pos_of_ne_zero (NeZero.ne n)) Pos.pos⟩
end Go.Proofs.Ytopgdemmdcipcaa
