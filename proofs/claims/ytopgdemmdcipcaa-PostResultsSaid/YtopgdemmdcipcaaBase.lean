/- Words that all texts of this seat use: how lists of numbers and of operations lie in memory, and what keeps them there. Nothing of the program is named here. -/
import Derived.WalkKit
import Derived.WalkSpells
import Derived.WalkLawsBesides
import Derived.Lib.Hide
import Derived.Deep.QuietTactic
import Derived.BigQuiet
import Derived.Deep.DeepFit
namespace Go.Proofs.Ytopgdemmdcipcaa
open Go.RowKit

/-- An operation of a transaction. -/
structure GOp where
  kind : Int
  key : Int
  n : Int
deriving DecidableEq, Inhabited

def opCells (o : GOp) : List Value := [.int .i64 o.kind, .int .i64 o.key, .int .i64 o.n]

/-- The value v is a slice of n elements, of these cells; each lies in a block that S lets. -/
def RRow (S : Nat → Prop) (w : World) (v : Value) (size bytes n : Nat) (cells : List Value) : Prop :=
  ∃ a cap, v = .slice a n cap ∧ n ≤ cap ∧ (a = none → cap = 0) ∧ cells.length = n * size ∧ n * bytes ≤ 140737488351232 ∧
    ∀ i u, cells[i]? = some u → ∃ b off, a = some ⟨b, off, none⟩ ∧ S b ∧ w.cell? ⟨b, off + i, none⟩ = some u

theorem cell_lt {w : World} {a : Addr} {v : Value} (h : w.cell? a = some v) : a.block < w.heap.size := block_lt_of_cell h

theorem RRow.mono {S S' : Nat → Prop} {w w' : World} {v : Value} {size bytes n : Nat} {cells : List Value} (h : RRow S w v size bytes n cells)
    (hs : ∀ b, S b → b < w.heap.size → S' b ∧ w'.heap[b]? = w.heap[b]?) : RRow S' w' v size bytes n cells := by
  obtain ⟨a, cap, rfl, h1, h2, h3, h4, h5⟩ := h
  refine ⟨a, cap, rfl, h1, h2, h3, h4, fun i u hu => ?_⟩
  obtain ⟨b, off, ha, hb, hc⟩ := h5 i u hu
  have hl := cell_lt hc
  exact ⟨b, off, ha, (hs b hb hl).1, by rw [← hc]; exact World.cell?_of_block (hs b hb hl).2⟩

/-- What lay there when the call began still lies there. -/
theorem RRow.later {S : Nat → Prop} {w w' : World} {v : Value} {size bytes n : Nat} {cells : List Value} (h : RRow S w v size bytes n cells)
    (hb : Below w.heap.size w w') : RRow S w' v size bytes n cells :=
  h.mono fun b hs hl => ⟨hs, hb.block b hl⟩

theorem RRow.any {S : Nat → Prop} {w : World} {v : Value} {size bytes n : Nat} {cells : List Value} (h : RRow S w v size bytes n cells) : RRow (fun _ => True) w v size bytes n cells :=
  h.mono fun _ _ _ => ⟨trivial, rfl⟩

def RInts (S : Nat → Prop) (w : World) (v : Value) (l : List Int) : Prop := RRow S w v 1 8 l.length (l.map (Value.int .i64))
def ROps (S : Nat → Prop) (w : World) (v : Value) (l : List GOp) : Prop := RRow S w v 3 24 l.length (l.flatMap opCells)

theorem RInts.later {S : Nat → Prop} {w w' : World} {v : Value} {l : List Int} (h : RInts S w v l) (hb : Below w.heap.size w w') : RInts S w' v l := RRow.later h hb
theorem ROps.later {S : Nat → Prop} {w w' : World} {v : Value} {l : List GOp} (h : ROps S w v l) (hb : Below w.heap.size w w') : ROps S w' v l := RRow.later h hb

theorem RInts.at {S : Nat → Prop} {w : World} {a : Option Addr} {n cap : Nat} {l : List Int} (h : RInts S w (.slice a n cap) l) {k : Nat} {x : Int} (hx : l[k]? = some x) :
    ∃ b off, a = some ⟨b, off, none⟩ ∧ S b ∧ b < w.heap.size ∧ w.cell? ⟨b, off + k, none⟩ = some (.int .i64 x) := by
  obtain ⟨a', cap', he, h1, h2, h3, h4, h5⟩ := h
  cases he
  obtain ⟨b, off, ha, hb, hc⟩ := h5 k (.int .i64 x) (by simp [hx])
  exact ⟨b, off, ha, hb, cell_lt hc, hc⟩

theorem flatMap_at {α : Type} {f : α → List Value} {m : Nat} (hf : ∀ a, (f a).length = m) : ∀ (l : List α) (k : Nat) (a : α) (j : Nat), l[k]? = some a → j < m →
    (l.flatMap f)[k * m + j]? = (f a)[j]? := by
  intro l
  induction l with
  | nil => intro k a j h; simp at h
  | cons x t ih =>
    intro k a j h hj
    cases k with
    | zero =>
      simp at h
      subst h
      simp only [List.flatMap_cons, Nat.zero_mul, Nat.zero_add]
      rw [List.getElem?_append_left (by rw [hf]; exact hj)]
    | succ k =>
      simp only [List.getElem?_cons_succ] at h
      simp only [List.flatMap_cons]
      rw [List.getElem?_append_right (by rw [hf]; simp only [Nat.succ_mul]; omega)]
      rw [hf, ← ih k a j h hj]
      congr 1
      simp only [Nat.succ_mul]
      omega

theorem flatMap_len {α : Type} {f : α → List Value} {m : Nat} (hf : ∀ a, (f a).length = m) (l : List α) : (l.flatMap f).length = l.length * m := by
  induction l with
  | nil => simp
  | cons x t ih => simp only [List.flatMap_cons, List.length_append, hf, ih, List.length_cons, Nat.succ_mul]; omega

theorem ROps.at {S : Nat → Prop} {w : World} {a : Option Addr} {n cap : Nat} {l : List GOp} (h : ROps S w (.slice a n cap) l) {k : Nat} {o : GOp} (hx : l[k]? = some o) :
    ∃ b off, a = some ⟨b, off, none⟩ ∧ S b ∧ b < w.heap.size ∧ w.cell? ⟨b, off + k * 3, none⟩ = some (.int .i64 o.kind) ∧
      w.cell? ⟨b, off + k * 3 + 1, none⟩ = some (.int .i64 o.key) ∧ w.cell? ⟨b, off + k * 3 + 2, none⟩ = some (.int .i64 o.n) := by
  obtain ⟨a', cap', he, h1, h2, h3, h4, h5⟩ := h
  cases he
  have hf : ∀ a, (opCells a).length = 3 := fun _ => rfl
  obtain ⟨b, off, ha, hb, hc⟩ := h5 (k * 3 + 0) (.int .i64 o.kind) (by rw [flatMap_at hf l k o 0 hx (by omega)]; rfl)
  obtain ⟨b1, off1, ha1, hb1, hc1⟩ := h5 (k * 3 + 1) (.int .i64 o.key) (by rw [flatMap_at hf l k o 1 hx (by omega)]; rfl)
  obtain ⟨b2, off2, ha2, hb2, hc2⟩ := h5 (k * 3 + 2) (.int .i64 o.n) (by rw [flatMap_at hf l k o 2 hx (by omega)]; rfl)
  rw [ha] at ha1 ha2
  cases ha1
  cases ha2
  exact ⟨b, off, ha, hb, cell_lt hc, hc, hc1, hc2⟩

/-- The shape of a slice that reads. -/
theorem RInts.shape {S : Nat → Prop} {w : World} {v : Value} {l : List Int} (h : RInts S w v l) : ∃ a cap, v = .slice a l.length cap ∧ l.length ≤ 17592186043904 := by
  obtain ⟨a, cap, he, h1, h2, h3, h4, h5⟩ := h
  exact ⟨a, cap, he, by omega⟩
theorem ROps.shape {S : Nat → Prop} {w : World} {v : Value} {l : List GOp} (h : ROps S w v l) : ∃ a cap, v = .slice a l.length cap ∧ l.length ≤ 17592186043904 := by
  obtain ⟨a, cap, he, h1, h2, h3, h4, h5⟩ := h
  exact ⟨a, cap, he, by omega⟩

theorem some_at {α : Type} {l : List α} {k : Nat} (h : k < l.length) : ∃ x, l[k]? = some x := ⟨l[k], by simp⟩
theorem take_snoc {α : Type} {l : List α} {k : Nat} {x : α} (h : l[k]? = some x) : l.take (k + 1) = l.take k ++ [x] := by
  rw [List.take_add_one, h]; rfl

/-- What a row of one's own has come to may be read. -/
theorem RRow.of_own {base : Nat} {e : TypeId} {size bytes n : Nat} {v : Value} {xs : List Value} {w : World} (h : w.ownsRow base e size v n xs) (hb : n * bytes ≤ 140737488351232) :
    RRow (fun b => base ≤ b) w v size bytes n xs := by
  obtain ⟨hl, h | ⟨g, cap, cur, rfl, hg, hh, hn, hc, hs, ht⟩⟩ := h
  · obtain ⟨rfl, rfl⟩ := h
    refine ⟨none, 0, rfl, Nat.le_refl _, fun _ => rfl, hl, hb, fun i u hu => ?_⟩
    have : xs = [] := by simpa using hl
    subst this
    simp at hu
  · refine ⟨some ⟨g, 0, none⟩, cap, rfl, hn, fun h => by simp at h, hl, hb, fun i u hu => ⟨g, 0, rfl, hg, ?_⟩⟩
    subst ht
    simp [World.cell?, hh]
    rw [List.getElem?_take] at hu
    split at hu
    · simpa using hu
    · simp at hu

/-- Append of a slice that reads to a row of one's own. -/
theorem wpList_append_R {P : Program} {w : World} {ops : Array Oper} {rest : List Oper} {o : Oper} {a : Act} {Q : Exit → Act → World → Prop} (hgd : Region.wanted o (yielded ops a.tmps) = true) (s x : Operand) (t : TypeId)
    (ho : o.op = .call { callee := .builtin .append, args := #[s, x], argTypes := #[t, t] })
    (base : Nat) (e : TypeId) (z : Value) (size bytes : Nat) (ht : P.underlying t = some (.slice e)) (hi : (P.info? e).map (fun i => (i.zero, i.size, i.bytes)) = some (some z, size, bytes)) (hzs : z.cells.size = size) (hsz : 0 < size)
    (v vx : Value) (n m : Nat) (xs news : List Value) (hs : a.eval s = v) (hown : w.ownsRow base e size v n xs) (hx : a.eval x = vx) (S : Nat → Prop) (hr : RRow S w vx size bytes m news) (h1 : ∀ u ∈ news, u.oneCell' = true)
    (hbytes : (n + m) * bytes ≤ 140737488355328) (hby : 0 < bytes) (hbase : base ≤ w.heap.size)
    (h : ∀ v' w', w'.ownsRow base e size v' (n + m) (xs ++ news) → w.grownBy w' v.ownBlock → wpList P ops Q rest (a.put o.dst v') w') : wpList P ops Q (o :: rest) a w := by
  obtain ⟨i, hi0, hz, hsize, hbyt⟩ := info_parts hi
  refine wpList_step fun K hK => ?_
  rw [if_pos hgd]
  obtain ⟨ad, cap, rfl, hn, hnil, hlen, hb, hcell⟩ := hr
  cases ad with
  | none =>
    have : cap = 0 := hnil rfl
    subst this
    have : m = 0 := by omega
    subst this
    have : news = [] := by simpa using hlen
    subst this
    have hrun := run_append_owned_none (P := P) (w := w) base t o.type e i size ht hi0 v n xs hown
    unfold Oper.wp
    simp [execOp, ho, resolve, invoke, builtin, hs, hx, hrun, Result.andThen]
    exact hK _ _ (h v w (by simpa using hown) (World.grownBy.refl ..))
  | some ad =>
    refine wp_append_own w s x t ho base e i z size bytes ht hi0 hz hsize hbyt hzs hsz v n xs hs hown ad m cap news hx hlen (fun j u hj => ?_) h1 (by unfold maxLen; exact Nat.le_trans (Nat.le_mul_of_pos_right _ hby) (Nat.le_trans hbytes (by decide))) hbytes hbase fun v' w' h2 h3 _ => hK _ _ (h v' w' h2 h3)
    obtain ⟨b, off, ha, _, hc⟩ := hcell j u hj
    cases ha
    simpa [Addr.add_lit] using hc

theorem RRow.one (w : World) (u : Value) (t : TypeId) (bytes : Nat) (hb : bytes ≤ 140737488351232) : RRow (fun _ => True) (w.alloc (.cells #[u] t)) (.slice (some ⟨w.heap.size, 0, none⟩) 1 1) 1 bytes 1 [u] := by
  refine ⟨_, _, rfl, Nat.le_refl _, fun h => by simp at h, rfl, by omega, fun i x hx => ⟨w.heap.size, 0, rfl, trivial, ?_⟩⟩
  have h := cell_one_new w u t i x hx
  rwa [Addr.add_lit] at h

theorem ownsRow_nil (w : World) (base : Nat) (e : TypeId) (size : Nat) : w.ownsRow base e size (.slice none 0 0) 0 [] := ⟨by simp, .inl ⟨rfl, rfl⟩⟩

/-- A list of numbers that the call made is handed back; what was there is as it was. -/
def RetInts (w : World) (l : List Int) (e : Ending) (w' : World) : Prop := ∃ v, e = .returned v ∧ RInts (fun b => w.heap.size ≤ b) w' v l ∧ Below w.heap.size w w'

/-- Is a type one of a single cell? -/
def oneCellType (P : Program) (e : TypeId) : Bool :=
  (match P.underlying e with | some (.struct _) | some (.array _ _) | none => false | _ => true) && ((P.info? e).map (·.size) == some 1)

theorem run_part1 {P : Program} {e : TypeId} (he : oneCellType P e = true) (cs : Array Value) (k : Nat) (v : Value) (hv : cs[k]? = some v) (w : World) : (part e cs k).run P w = .ok v w := by
  unfold oneCellType at he
  rw [Bool.and_eq_true] at he
  cases hd : P.underlying e with
  | none => rw [hd] at he; simp at he
  | some d =>
    have hagg : (isAgg e).run P w = .ok false w := by
      unfold isAgg
      rw [Sem.run_bind, run_underlying hd w]
      rw [hd] at he
      cases d <;> simp_all
    simp [part, Sem.run_bind, hagg, hv]

theorem run_size1 {P : Program} {e : TypeId} {n : Nat} (he : (P.info? e).map (·.size) = some n) (w : World) : (sizeOf e).run P w = .ok n w := by
  cases hq : P.info? e with
  | none => simp [hq] at he
  | some i =>
    rw [hq] at he
    simp only [Option.map_some, Option.some.injEq] at he
    subst he
    simp [sizeOf, typeInfo, hq]

theorem run_index1 {P : Program} {t e : TypeId} {n : Nat} (hu : P.underlying t = some (.array n e)) (he : oneCellType P e = true) (cs : Array Value) (k : Nat) (v : Value) (hk : k < n) (hv : cs[k]? = some v) (w : World) :
    (Instr.index t (.agg cs) (.int .i64 (k : Int))).run P w = .ok v w := by
  have hs : (P.info? e).map (·.size) = some 1 := by unfold oneCellType at he; rw [Bool.and_eq_true, beq_iff_eq] at he; exact he.2
  have hp := run_part1 he cs k v hv w
  unfold Instr.index
  simp [asIntOf, Sem.run_bind, run_underlying hu w, hk, run_size1 hs w, hp]

theorem turned {P : Program} {f : FuncId} {args : Array Value} {w : World} {x : Ending} (h : Calls P f args w fun e w' => e = x ∧ w = w') : Calls P f args w fun e w' => e = x ∧ w' = w :=
  h.mono fun _ _ h => ⟨h.1, h.2.symm⟩

theorem drewN_drewN (w : World) (a b : Nat) : (w.drewN a).drewN b = w.drewN (a + b) := by simp [World.drewN, Nat.add_assoc]
theorem Below.drewN {B : Nat} {a w : World} (h : Below B a w) (n : Nat) : Below B a (w.drewN n) := ⟨h.os, h.tape, h.output, h.size, h.block⟩

end Go.Proofs.Ytopgdemmdcipcaa
